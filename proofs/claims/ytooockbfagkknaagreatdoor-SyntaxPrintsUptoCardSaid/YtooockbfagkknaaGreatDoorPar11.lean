/- rep, walked. -/
import Derived.Test.YtooockbfagkknaaGreatDoorPar10
namespace Go.Proofs.YtooockbfagkknaaGreatDoor.syn
open Go.RowKit Go.Proofs.YtooockbfagkknaaGreatDoor.sl Go.Proofs.YtooockbfagkknaaGreatDoor.cls
variable {c : Cx} {w : World} {s : Ps}
theorem repF_err {G : List Gt} {alt : Ps → Ps × List Nd} (h : (atomF G alt s).1.err ≠ 0) : repF G alt s = ((atomF G alt s).1, []) := by simp only [repF, if_pos h]
def rep1 (G : List Gt) (t : Ps) (l : List Nd) : Ps × List Nd :=
  if isR G t 42 then rep2 G t.next 0 (-1) l
  else if isR G t 43 then rep2 G t.next 1 (-1) l
  else if isR G t 63 then rep2 G t.next 0 1 l
  else if isR G t 123 then rep2 G (oftenF G t).1 (oftenF G t).2.1 (oftenF G t).2.2 l
  else (t, l)
theorem repF_go {G : List Gt} {alt : Ps → Ps × List Nd} (h : (atomF G alt s).1.err = 0) : repF G alt s = rep1 G (atomF G alt s).1 (atomF G alt s).2 := by
  simp only [repF]
  rw [if_neg (by simp [h])]
  rfl
theorem rep2_err {G : List Gt} {mn mx : Int} {l : List Nd} (h : s.err ≠ 0) : rep2 G s mn mx l = (s, []) := by simp [rep2, h]
theorem rep2_ok {G : List Gt} {mn mx : Int} {l : List Nd} (h : s.err = 0) : rep2 G s mn mx l = (skipS G s 63, { nd 5 with mn := mn, mx := mx, lz := isR G s 63, kids := 1 } :: l) := by simp [rep2, h]
set_option maxHeartbeats 8000000 in
set_option maxRecDepth 100000 in
theorem repC {alt : Ps → Ps × List Nd} (A : AltOk c.G alt) (C : AltC c (s.opens + 1) alt) (h : Pz c w s) (hi : s.i < c.G.length) (he : s.err = 0) : Calls Tryz.prog 50 #[.pointer (some ⟨c.P, 0, none⟩)] w (NdPost c w (repF c.G alt s)) := by
  have hln := h.len
  have hPw := h.lt
  have hgr := h.gr
  have AD := Lib.hid (atomF_adv A hi hgr)
  have AT := Lib.hid (atomC A C h hi he)
  have RE := Lib.hid (repF_err (G := c.G) (alt := alt) (s := s))
  have RG := Lib.hid (repF_go (G := c.G) (alt := alt) (s := s))
  clear h he
  suffices key : ∀ r, repF c.G alt s = r → Calls Tryz.prog 50 #[.pointer (some ⟨c.P, 0, none⟩)] w (NdPost c w r) from key _ rfl
  intro r hr
  rw [hr] at RE RG
  clear hr
  go_enter Tryz.func50, Tryz.ntmps50
  go_wp2_with fail
  refine AT.out.mono ?_
  rintro e w2 ⟨xv, rfl, p2, k2, nd2⟩
  generalize atomF c.G alt s = a at p2 nd2 AD RE RG
  obtain ⟨t, l⟩ := a
  simp only at p2 nd2 AD RE RG
  have P2 := Lib.hid p2
  have K2 := Lib.hid k2
  have ND2 := Lib.hid nd2
  have HLEN : Hid (l.length ≤ 1000) := Lib.hid (by have h1 := AD.out.2.2; have h2 := AD.out.1.len; omega)
  have htl := p2.le
  have hH2 := p2.hH
  clear p2 k2 nd2 AT AD
  have c5 := P2.out.c5
  by_cases het : t.err = 0
  · have e1 := RG.out het
    rw [het] at c5
    have HQ := Lib.hid e1
    have HT := Lib.hid het
    clear e1 het RE RG
    go_upto_block 0 with fail
    have b3 := (Below.refl w2.heap.size w2).alloc (Nat.le_refl _) (.cells #[.int .i64 5, .slice none 0 0, .int .i64 0, .int .i64 0, .bool false, .int .i64 0, .int .i64 1] 35)
    have P3 := Lib.hid (P2.out.keep b3)
    have KK := Lib.hid (Kp.below (P := c.P) b3)
    have NB := Lib.hid (heap_alloc_new w2 (.cells #[.int .i64 5, .slice none 0 0, .int .i64 0, .int .i64 0, .bool false, .int .i64 0, .int .i64 1] 35))
    have hNw : w.heap.size ≤ w2.heap.size := K2.out.size
    have hNP : w2.heap.size ≠ c.P := by have := P2.out.lt; omega
    clear c5 b3 P2
    generalize w2.alloc (.cells #[.int .i64 5, .slice none 0 0, .int .i64 0, .int .i64 0, .bool false, .int .i64 0, .int .i64 1] 35) = w3 at P3 KK NB ⊢
    obtain ⟨Nb, hNe⟩ : ∃ Nb, w2.heap.size = Nb := ⟨_, rfl⟩
    have HNE := Lib.hid hNe
    rw [hNe] at NB hNw hNP hH2 ⊢
    clear hNe
    go_cut [] (fun wx => ∃ (t' : Ps) (mn mx : Int), Pz c wx t' ∧ Kp c.P w2 wx ∧ wx.heap[Nb]? = some (.cells #[.int .i64 5, .slice none 0 0, .int .i64 mn, .int .i64 mx, .bool false, .int .i64 0, .int .i64 1] 35) ∧ r = rep2 c.G t' mn mx l)
    case first =>
      unfold rep1 at HQ
      have SK := Lib.hid (skipC P3.out 42)
      cases h1 : isR c.G t 42
      · rw [h1] at SK HQ
        rw [if_neg (by decide)] at HQ
        rw [show skipS c.G t 42 = t by simp [skipS, h1]] at SK
        clear h1
        go_wp2_with fail
        refine SK.out.mono ?_
        rintro e w4 ⟨rfl, p4, k4⟩
        have NB4 := Lib.hid ((k4.block Nb (heap_lt NB.out) (by simpa using hNP)).trans NB.out)
        have KK4 := Lib.hid (KK.out.trans k4)
        have SK2 := Lib.hid (skipC p4 43)
        clear p4 k4 SK P3 NB KK
        cases h2 : isR c.G t 43
        · rw [h2] at SK2 HQ
          rw [if_neg (by decide)] at HQ
          rw [show skipS c.G t 43 = t by simp [skipS, h2]] at SK2
          clear h2
          go_wp2_with fail
          refine SK2.out.mono ?_
          rintro e w5 ⟨rfl, p5, k5⟩
          have NB5 := Lib.hid ((k5.block Nb (heap_lt NB4.out) (by simpa using hNP)).trans NB4.out)
          have KK5 := Lib.hid (KK4.out.trans k5)
          have SK3 := Lib.hid (skipC p5 63)
          clear p5 k5 SK2 NB4 KK4
          cases h3 : isR c.G t 63
          · rw [h3] at SK3 HQ
            rw [if_neg (by decide)] at HQ
            rw [show skipS c.G t 63 = t by simp [skipS, h3]] at SK3
            clear h3
            go_wp2_with fail
            refine SK3.out.mono ?_
            rintro e w6 ⟨rfl, p6, k6⟩
            have NB6 := Lib.hid ((k6.block Nb (heap_lt NB5.out) (by simpa using hNP)).trans NB5.out)
            have KK6 := Lib.hid (KK5.out.trans k6)
            have P6 := Lib.hid p6
            have IC := Lib.hid (isC p6 123)
            clear p6 k6 SK3 NB5 KK5
            cases h4 : isR c.G t 123
            · rw [h4] at IC HQ
              rw [if_neg (by decide)] at HQ
              clear h4
              go_wp2_with fail
              refine IC.out.mono ?_
              rintro e w7 ⟨rfl, n7, rfl⟩
              go_wp2_with fail
              go_ret
              rw [HQ.out]
              have K7 : Kp c.P w2 (w6.drewN n7) := KK6.out.trans (Kp.below (drewN_below (Below.refl _ _) n7))
              exact ⟨_, rfl, P6.out.drewN n7, K2.out.trans K7, ND2.out.kp K7 hPw⟩
            · have hlt := isR_lt h4
              rw [h4] at IC HQ
              rw [if_pos rfl] at HQ
              clear h4
              go_wp2_with fail
              refine IC.out.mono ?_
              rintro e w7 ⟨rfl, n7, rfl⟩
              go_wp2_with fail
              refine (oftenC (P6.out.drewN n7) hlt).mono ?_
              rintro e w8 ⟨rfl, p8, k8⟩
              generalize oftenF c.G t = q at p8 HQ ⊢
              obtain ⟨t8, lo, hi8⟩ := q
              simp only at p8 HQ ⊢
              have k8' := (Kp.below (P := c.P) (drewN_below (Below.refl w6.heap.size w6) n7)).trans k8
              have NB8 := Lib.hid ((k8'.block Nb (heap_lt NB6.out) (by simpa using hNP)).trans NB6.out)
              have KK8 := Lib.hid (KK6.out.trans k8')
              have P8 := Lib.hid p8
              clear p8 k8 k8' NB6 KK6 P6
              have d2 := cell_of_obj (o := 2) (u := .int .i64 0) NB8.out rfl
              have z2 := frozen_of_obj (o := 2) NB8.out
              have d3 := cell_of_obj (o := 3) (u := .int .i64 0) NB8.out rfl
              have z3 := frozen_of_obj (o := 3) NB8.out
              have b1 : Below Nb w8 (w8.setCell ⟨Nb, 2, none⟩ (.int .i64 lo)) := (Below.refl Nb w8).setCell (p := ⟨Nb, 2, none⟩) (Nat.le_refl Nb) _
              have b2 : Below Nb w8 ((w8.setCell ⟨Nb, 2, none⟩ (.int .i64 lo)).setCell ⟨Nb, 3, none⟩ (.int .i64 hi8)) := b1.setCell (p := ⟨Nb, 3, none⟩) (Nat.le_refl Nb) _
              have nbz : ((w8.setCell ⟨Nb, 2, none⟩ (.int .i64 lo)).setCell ⟨Nb, 3, none⟩ (.int .i64 hi8)).heap[Nb]? = some (.cells #[.int .i64 5, .slice none 0 0, .int .i64 lo, .int .i64 hi8, .bool false, .int .i64 0, .int .i64 1] 35) := by rw [obj_set (obj_set NB8.out)]; rfl
              have NBZ := Lib.hid nbz
              have BZ := Lib.hid b2
              clear b1 b2 nbz
              go_wp2_with fail
              go_meet
              exact ⟨_, lo, hi8, P8.out.keepB BZ.out hH2, KK8.out.thenB BZ.out (Nat.le_of_eq HNE.out), NBZ.out, HQ.out⟩
          · have hlt := isR_lt h3
            rw [h3] at SK3 HQ
            rw [if_pos rfl] at HQ
            rw [show skipS c.G t 63 = t.next by simp [skipS, h3]] at SK3
            clear h3
            go_wp2_with fail
            refine SK3.out.mono ?_
            rintro e w8 ⟨rfl, p8, k8⟩
            have NB8 := Lib.hid ((k8.block Nb (heap_lt NB5.out) (by simpa using hNP)).trans NB5.out)
            have KK8 := Lib.hid (KK5.out.trans k8)
            have P8 := Lib.hid p8
            clear p8 k8 NB5 KK5 SK3
            have d3 := cell_of_obj (o := 3) (u := .int .i64 0) NB8.out rfl
            have z3 := frozen_of_obj (o := 3) NB8.out
            have b2 : Below Nb w8 (w8.setCell ⟨Nb, 3, none⟩ (.int .i64 1)) := (Below.refl Nb w8).setCell (p := ⟨Nb, 3, none⟩) (Nat.le_refl Nb) _
            have nbz : (w8.setCell ⟨Nb, 3, none⟩ (.int .i64 1)).heap[Nb]? = some (.cells #[.int .i64 5, .slice none 0 0, .int .i64 0, .int .i64 1, .bool false, .int .i64 0, .int .i64 1] 35) := by rw [obj_set NB8.out]; rfl
            have NBZ := Lib.hid nbz
            have BZ := Lib.hid b2
            clear b2 nbz
            go_wp2_with fail
            go_meet
            exact ⟨_, 0, 1, P8.out.keepB BZ.out hH2, KK8.out.thenB BZ.out (Nat.le_of_eq HNE.out), NBZ.out, HQ.out⟩
        · have hlt := isR_lt h2
          rw [h2] at SK2 HQ
          rw [if_pos rfl] at HQ
          rw [show skipS c.G t 43 = t.next by simp [skipS, h2]] at SK2
          clear h2
          go_wp2_with fail
          refine SK2.out.mono ?_
          rintro e w8 ⟨rfl, p8, k8⟩
          have NB8 := Lib.hid ((k8.block Nb (heap_lt NB4.out) (by simpa using hNP)).trans NB4.out)
          have KK8 := Lib.hid (KK4.out.trans k8)
          have P8 := Lib.hid p8
          clear p8 k8 NB4 KK4 SK2
          have d2 := cell_of_obj (o := 2) (u := .int .i64 0) NB8.out rfl
          have z2 := frozen_of_obj (o := 2) NB8.out
          have d3 := cell_of_obj (o := 3) (u := .int .i64 0) NB8.out rfl
          have z3 := frozen_of_obj (o := 3) NB8.out
          have b1 : Below Nb w8 (w8.setCell ⟨Nb, 2, none⟩ (.int .i64 1)) := (Below.refl Nb w8).setCell (p := ⟨Nb, 2, none⟩) (Nat.le_refl Nb) _
          have b2 : Below Nb w8 ((w8.setCell ⟨Nb, 2, none⟩ (.int .i64 1)).setCell ⟨Nb, 3, none⟩ (.int .i64 (-1))) := b1.setCell (p := ⟨Nb, 3, none⟩) (Nat.le_refl Nb) _
          have nbz : ((w8.setCell ⟨Nb, 2, none⟩ (.int .i64 1)).setCell ⟨Nb, 3, none⟩ (.int .i64 (-1))).heap[Nb]? = some (.cells #[.int .i64 5, .slice none 0 0, .int .i64 1, .int .i64 (-1), .bool false, .int .i64 0, .int .i64 1] 35) := by rw [obj_set (obj_set NB8.out)]; rfl
          have NBZ := Lib.hid nbz
          have BZ := Lib.hid b2
          clear b1 b2 nbz
          go_wp2_with fail
          go_meet
          exact ⟨_, 1, (-1), P8.out.keepB BZ.out hH2, KK8.out.thenB BZ.out (Nat.le_of_eq HNE.out), NBZ.out, HQ.out⟩
      · have hlt := isR_lt h1
        rw [h1] at SK HQ
        rw [if_pos rfl] at HQ
        rw [show skipS c.G t 42 = t.next by simp [skipS, h1]] at SK
        clear h1
        go_wp2_with fail
        refine SK.out.mono ?_
        rintro e w8 ⟨rfl, p8, k8⟩
        have NB8 := Lib.hid ((k8.block Nb (heap_lt NB.out) (by simpa using hNP)).trans NB.out)
        have KK8 := Lib.hid (KK.out.trans k8)
        have P8 := Lib.hid p8
        clear p8 k8 NB KK SK P3
        have d3 := cell_of_obj (o := 3) (u := .int .i64 0) NB8.out rfl
        have z3 := frozen_of_obj (o := 3) NB8.out
        have b2 : Below Nb w8 (w8.setCell ⟨Nb, 3, none⟩ (.int .i64 (-1))) := (Below.refl Nb w8).setCell (p := ⟨Nb, 3, none⟩) (Nat.le_refl Nb) _
        have nbz : (w8.setCell ⟨Nb, 3, none⟩ (.int .i64 (-1))).heap[Nb]? = some (.cells #[.int .i64 5, .slice none 0 0, .int .i64 0, .int .i64 (-1), .bool false, .int .i64 0, .int .i64 1] 35) := by rw [obj_set NB8.out]; rfl
        have NBZ := Lib.hid nbz
        have BZ := Lib.hid b2
        clear b2 nbz
        go_wp2_with fail
        go_meet
        exact ⟨_, 0, (-1), P8.out.keepB BZ.out hH2, KK8.out.thenB BZ.out (Nat.le_of_eq HNE.out), NBZ.out, HQ.out⟩
    case rest =>
      obtain ⟨t9, mn, mx, p9, k9, nb9, hq⟩ := hcut
      have P9 := Lib.hid p9
      have KK9 := Lib.hid k9
      have NB9 := Lib.hid nb9
      have HQ9 := Lib.hid hq
      clear p9 k9 nb9 hq HQ P3 KK NB
      generalize wc = w9 at P9 KK9 NB9
      have c5 := P9.out.c5
      by_cases he9 : t9.err = 0
      · have e1 := HQ9.out
        rw [rep2_ok he9] at e1
        rw [he9] at c5
        have E1 := Lib.hid e1
        have SK := Lib.hid (skipC P9.out 63)
        clear e1 he9 HQ9
        generalize isR c.G t9 63 = lz at SK E1
        generalize skipS c.G t9 63 = t10 at SK E1
        go_wp2_with fail
        refine SK.out.mono ?_
        rintro e w10 ⟨rfl, p10, k10⟩
        have nb10 := (k10.block Nb (heap_lt NB9.out) (by simpa using hNP)).trans NB9.out
        have d4 := cell_of_obj (o := 4) (u := .bool false) nb10 rfl
        have z4 := frozen_of_obj (o := 4) nb10
        have P10 := Lib.hid p10
        have KK10 := Lib.hid (KK9.out.trans k10)
        have NB10 := Lib.hid nb10
        clear p10 k10 nb10 P9 KK9 NB9 c5 SK
        go_upto_region 17 with fail
        have bN : Below Nb w10 (w10.setCell ⟨Nb, 4, none⟩ (.bool lz)) := (Below.refl Nb w10).setCell (p := ⟨Nb, 4, none⟩) (Nat.le_refl Nb) _
        have P11 := Lib.hid (P10.out.keepB bN hH2)
        have KK11 := Lib.hid (KK10.out.thenB bN (Nat.le_of_eq HNE.out))
        have NB11 : Hid ((w10.setCell ⟨Nb, 4, none⟩ (.bool lz)).heap[Nb]? = some (.cells #[.int .i64 5, .slice none 0 0, .int .i64 mn, .int .i64 mx, .bool lz, .int .i64 0, .int .i64 1] 35)) := Lib.hid (by rw [obj_set NB10.out]; rfl)
        clear P10 KK10 NB10 bN d4 z4
        generalize w10.setCell ⟨Nb, 4, none⟩ (.bool lz) = w11 at P11 KK11 NB11 ⊢
        have nb := NB11.out
        have d0 := cell_of_obj (o := 0) nb rfl
        have d1 := cell_of_obj (o := 1) nb rfl
        have d2 := cell_of_obj (o := 2) nb rfl
        have d3 := cell_of_obj (o := 3) nb rfl
        have d4 := cell_of_obj (o := 4) nb rfl
        have d5 := cell_of_obj (o := 5) nb rfl
        have d6 := cell_of_obj (o := 6) nb rfl
        simp only [List.getElem_toArray, List.getElem_cons_zero, List.getElem_cons_succ] at d0 d1 d2 d3 d4 d5 d6
        have K11 := Lib.hid (K2.out.trans KK11.out)
        obtain ⟨ls, hls, hnv⟩ := ND2.out.kp KK11.out hPw
        obtain ⟨p, hp1, hp2, hp3⟩ := hnv.pv
        subst hp2
        have o1 : OwnN w11.heap.size (w11.alloc (.cells #[.int .i64 5, .slice none 0 0, .int .i64 mn, .int .i64 mx, .bool lz, .int .i64 0, .int .i64 1] 35)) (.slice (some ⟨w11.heap.size, 0, none⟩) 1 1) [⟨{ nd 5 with mn := mn, mx := mx, lz := lz, kids := 1 }, none, 0, 0⟩] := own_lit w11 _ _ 1 rfl eN_len rfl (Nat.le_refl _) (by omega)
        have rd1 := (NdsV.rd (hnv.kept ((Below.refl w11.heap.size w11).alloc (Nat.le_refl _) (.cells #[.int .i64 5, .slice none 0 0, .int .i64 mn, .int .i64 mx, .bool lz, .int .i64 0, .int .i64 1] 35)))).2
        have O1 := Lib.hid o1
        have RD1 := Lib.hid rd1
        have HNV := Lib.hid hnv
        have HLS := Lib.hid hls
        have HP3 := Lib.hid hp3
        have hs11 : w11.heap.size ≤ (w11.alloc (.cells #[.int .i64 5, .slice none 0 0, .int .i64 mn, .int .i64 mx, .bool lz, .int .i64 0, .int .i64 1] 35)).heap.size := by simp
        have hmx : [(⟨{ nd 5 with mn := mn, mx := mx, lz := lz, kids := 1 }, none, 0, 0⟩ : NdV)].length + ls.length ≤ 1000000000 := by
          have e : ls.length = l.length := by rw [← hls]; simp
          have := HLEN.out
          simp
          omega
        clear o1 rd1 hnv hls nb hp1 hp3
        go_wp2_with (at_builtin; go_must (refine wpList_app elem_nd rfl rfl rfl rfl O1.out RD1.out HP3.out eN_len eN_one hmx (by omega) hs11 ?_; intro v2 w2x o2 g2))
        go_ret
        rw [E1.out]
        have b2 : Below w11.heap.size w11 w2x := Below.grow ((Below.refl w11.heap.size w11).alloc (Nat.le_refl _) _) O1.out g2 (Nat.le_refl _) hs11
        have nn := nds_cons (y := ⟨{ nd 5 with mn := mn, mx := mx, lz := lz, kids := 1 }, none, 0, 0⟩) K11.out.size (Own.nil _ _ _ _ _) HNV.out.2 o2 b2
        rw [HLS.out] at nn
        exact ⟨_, rfl, P11.out.keep b2, K11.out.trans (Kp.below b2), nn⟩
      · have e1 := HQ9.out
        rw [rep2_err he9] at e1
        have E1 := Lib.hid e1
        have he' : (t9.err == 0) = false := by simpa using he9
        clear e1 he9 HQ9
        generalize t9.err = ee at c5 he'
        go_wp2_with fail
        go_ret
        rw [E1.out]
        exact ndPost_nil P9.out (K2.out.trans KK9.out)
  · have e1 := RE.out het
    have E1 := Lib.hid e1
    have he' : (t.err == 0) = false := by simpa using het
    clear e1 het RE RG
    generalize t.err = ee at c5 he'
    go_wp2_with fail
    go_ret
    rw [E1.out]
    exact ndPost_nil P2.out K2.out
end Go.Proofs.YtooockbfagkknaaGreatDoor.syn
