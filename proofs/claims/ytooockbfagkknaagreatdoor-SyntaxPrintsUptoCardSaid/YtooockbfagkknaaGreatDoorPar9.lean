/- dot, group, walked. -/
import Derived.Test.YtooockbfagkknaaGreatDoorPar8
namespace Go.Proofs.YtooockbfagkknaaGreatDoor.syn
open Go.RowKit Go.Proofs.YtooockbfagkknaaGreatDoor.sl Go.Proofs.YtooockbfagkknaaGreatDoor.cls
variable {c : Cx} {w : World} {s : Ps}
set_option maxHeartbeats 4000000 in
theorem dotC (w : World) : Calls Tryz.prog 57 #[] w fun e w' => ∃ v, e = .returned v ∧ OwnR w.heap.size w' v dotF ∧ Below w.heap.size w w' := by
  go_enter Tryz.func57, Tryz.ntmps57
  go_wp2_with fail
  refine (notC (some ⟨w.heap.size, 0, none⟩) [(10, 10)] 1 _ (Rd.built [(10, 10)] 1 rfl rfl (by omega)) (by simp)).mono ?_
  rintro e w' ⟨v, rfl, o, b⟩
  go_wp2_with fail
  go_ret
  exact ⟨_, rfl, own_alloc o, below_alloc b⟩
/-- The reading of what stands in brackets, where so many stand open. -/
def AltC (c : Cx) (k : Nat) (alt : Ps → Ps × List Nd) : Prop := ∀ (s : Ps) (w : World), Pz c w s → s.opens = k → s.err = 0 → Calls Tryz.prog 16 #[.pointer (some ⟨c.P, 0, none⟩)] w (NdPost c w (alt s))
/-- A group, behind its (?:. -/
def group2 (G : List Gt) (alt : Ps → Ps × List Nd) (frm : Nat) (free : Bool) (s3 : Ps) : Ps × List Nd :=
  if 20 ≤ s3.opens then (s3.wrong G frm 10, [])
  else if free = false ∧ 4 ≤ s3.groups then (s3.wrong G frm 13, [])
  else
    let s4 : Ps := if free then s3 else { s3 with groups := s3.groups + 1 }
    let a := alt { s4 with opens := s4.opens + 1 }
    let s5 : Ps := { a.1 with opens := a.1.opens - 1 }
    if s5.err = 0 ∧ isR G s5 41 = false then (s5.wrong G frm 4, [])
    else
      let s6 : Ps := if s5.err = 0 then s5.next else s5
      if free then (s6, a.2) else (s6, { nd 6 with cap := s4.groups, kids := 1 } :: a.2)
theorem groupF_no {G : List Gt} {alt : Ps → Ps × List Nd} (h : isR G s.next 63 = true) (h2 : isR G s.next.next 58 = false) : groupF G alt s = (s.next.next.wrong G s.i 4, []) := by
  simp [groupF, h, h2]
theorem groupF_free {G : List Gt} {alt : Ps → Ps × List Nd} (h : isR G s.next 63 = true) (h2 : isR G s.next.next 58 = true) : groupF G alt s = group2 G alt s.i true s.next.next.next := by
  simp [groupF, group2, h, h2]
theorem groupF_cap {G : List Gt} {alt : Ps → Ps × List Nd} (h : isR G s.next 63 = false) : groupF G alt s = group2 G alt s.i false s.next := by
  simp [groupF, group2, h]
theorem group2_deep {G : List Gt} {alt : Ps → Ps × List Nd} {f : Nat} {b : Bool} (h : 20 ≤ s.opens) : group2 G alt f b s = (s.wrong G f 10, []) := by simp [group2, h]
theorem group2_many {G : List Gt} {alt : Ps → Ps × List Nd} {f : Nat} (h : ¬ 20 ≤ s.opens) (h4 : 4 ≤ s.groups) : group2 G alt f false s = (s.wrong G f 13, []) := by simp [group2, h, h4]
/-- A group, behind what stands in it. -/
def group3 (G : List Gt) (frm : Nat) (free : Bool) (g : Nat) (s5 : Ps) (l : List Nd) : Ps × List Nd :=
  if s5.err = 0 ∧ isR G s5 41 = false then (s5.wrong G frm 4, [])
  else
    let s6 : Ps := if s5.err = 0 then s5.next else s5
    if free then (s6, l) else (s6, { nd 6 with cap := g, kids := 1 } :: l)
theorem group2_free {G : List Gt} {alt : Ps → Ps × List Nd} {f : Nat} (h : ¬ 20 ≤ s.opens) : group2 G alt f true s = group3 G f true s.groups { (alt { s with opens := s.opens + 1 }).1 with opens := (alt { s with opens := s.opens + 1 }).1.opens - 1 } (alt { s with opens := s.opens + 1 }).2 := by
  simp [group2, group3, h]
theorem group2_cap {G : List Gt} {alt : Ps → Ps × List Nd} {f : Nat} (h : ¬ 20 ≤ s.opens) (h4 : ¬ 4 ≤ s.groups) : group2 G alt f false s = group3 G f false (s.groups + 1) { (alt { s with groups := s.groups + 1, opens := s.opens + 1 }).1 with opens := (alt { s with groups := s.groups + 1, opens := s.opens + 1 }).1.opens - 1 } (alt { s with groups := s.groups + 1, opens := s.opens + 1 }).2 := by
  simp [group2, group3, h, h4]
theorem group3_err {G : List Gt} {f g : Nat} {l : List Nd} (h : s.err ≠ 0) (b : Bool) : group3 G f b g s l = (s, if b = true then l else { nd 6 with cap := g, kids := 1 } :: l) := by
  cases b <;> simp [group3, h]
theorem group3_open {G : List Gt} {f g : Nat} {l : List Nd} (h : s.err = 0) (hR : isR G s 41 = false) (b : Bool) : group3 G f b g s l = (s.wrong G f 4, []) := by simp [group3, h, hR]
theorem group3_ok {G : List Gt} {f g : Nat} {l : List Nd} (h : s.err = 0) (hR : isR G s 41 = true) (b : Bool) : group3 G f b g s l = (s.next, if b = true then l else { nd 6 with cap := g, kids := 1 } :: l) := by
  cases b <;> simp [group3, h, hR]
/-- A node of the call's own, built and put ahead of others. -/
theorem nds_cons {B : Nat} {w w2 : World} {v2 : Value} {ls : List NdV} {y : NdV} (hB : B ≤ w.heap.size) (hy : OwnR B w y.v y.x.r) (hN : ∀ z ∈ ls, OwnR B w z.v z.x.r) (o : OwnN w.heap.size w2 v2 ([y] ++ ls)) (b : Below w.heap.size w w2) : Nds B w2 v2 (y.x :: ls.map NdV.x) :=
  ⟨y :: ls, rfl, o.mono hB, fun z hz => by
    rcases List.mem_cons.1 hz with rfl | hz
    · exact hy.below b (Nat.le_refl _)
    · exact (hN z hz).below b (Nat.le_refl _)⟩
set_option maxHeartbeats 8000000 in
set_option maxRecDepth 100000 in
theorem groupC {alt : Ps → Ps × List Nd} (A : AltOk c.G alt) (C : AltC c (s.opens + 1) alt) (h : Pz c w s) (hi : s.i < c.G.length) (he : s.err = 0) : Calls Tryz.prog 78 #[.pointer (some ⟨c.P, 0, none⟩)] w (NdPost c w (groupF c.G alt s)) := by
  have c2 := h.c2
  have f2 := h.fz 2
  have hln := h.len
  have hPw := h.lt
  have P1 := Lib.hid (h.step hi)
  have K1 := Lib.hid (Kp.set c.P 2 w (.int .i64 ((s.i : Int) + 1)))
  have H0 := Lib.hid he
  clear h he
  suffices key : ∀ r, groupF c.G alt s = r → Calls Tryz.prog 78 #[.pointer (some ⟨c.P, 0, none⟩)] w (NdPost c w r) from key _ rfl
  intro r hr
  have HQ := Lib.hid hr
  clear hr
  go_enter Tryz.func78, Tryz.ntmps78
  go_upto_region 3 with fail
  generalize w.setCell ⟨c.P, 2, none⟩ (.int .i64 ((s.i : Int) + 1)) = w1 at P1 K1 ⊢
  clear c2 f2
  have SK := Lib.hid (skipC P1.out 63)
  cases hf : isR c.G s.next 63
  · have e1 := HQ.out
    rw [groupF_cap hf] at e1
    have HG := Lib.hid e1
    have hs : skipS c.G s.next 63 = s.next := by simp [skipS, hf]
    rw [hs, hf] at SK
    have HO := Lib.hid (show s.next.opens = s.opens from rfl)
    have H0' := Lib.hid (show s.next.err = 0 from H0.out)
    clear e1 hs hf HQ P1 H0
    have H0 := H0'
    clear H0'
    go_wp2_with fail
    refine SK.out.mono ?_
    rintro e w3 ⟨rfl, p3, k3⟩
    have P3 := Lib.hid p3
    have K3 := Lib.hid (K1.out.trans k3)
    clear p3 k3 SK K1
    generalize s.next = s3 at P3 HG HO H0
    have c3 := P3.out.c3
    have hH3 := P3.out.hH
    by_cases hd : 20 ≤ s3.opens
    · have i1 : (20 : Int) ≤ (s3.opens : Int) := by omega
      have e1 := HG.out
      rw [group2_deep hd] at e1
      have E1 := Lib.hid e1
      clear e1 HG
      go_wp2_with fail
      refine (wrongC P3.out hi 10).mono ?_
      rintro e w4 ⟨rfl, P4, K4⟩
      go_wp2_with fail
      go_ret
      rw [← E1.out]
      exact ndPost_nil P4 (K3.out.trans K4)
    · have i1 : (s3.opens : Int) < 20 := by omega
      have b4 := (Below.refl w3.heap.size w3).alloc (Nat.le_refl _) (.cells #[.int .i64 6, .slice none 0 0, .int .i64 0, .int .i64 0, .bool false, .int .i64 0, .int .i64 1] 35)
      have nb4 := heap_alloc_new w3 (.cells #[.int .i64 6, .slice none 0 0, .int .i64 0, .int .i64 0, .bool false, .int .i64 0, .int .i64 1] 35)
      have P4 := Lib.hid (P3.out.keep b4)
      have K4 := Lib.hid (K3.out.trans (Kp.below b4))
      have NB4 := Lib.hid nb4
      have hNb : w.heap.size ≤ w3.heap.size := K3.out.size
      have hNP : w3.heap.size ≠ c.P := by have := P3.out.lt; omega
      have c4 := P3.out.c4
      by_cases hm : 4 ≤ s3.groups
      · have i2 : (4 : Int) ≤ (s3.groups : Int) := by omega
        have e1 := HG.out
        rw [group2_many hd hm] at e1
        have E1 := Lib.hid e1
        clear e1 HG b4 nb4
        have c4' := P4.out.c4
        go_wp2_with fail
        refine (wrongC P4.out hi 13).mono ?_
        rintro e w5 ⟨rfl, P5, K5⟩
        go_wp2_with fail
        go_ret
        rw [← E1.out]
        exact ndPost_nil P5 (K4.out.trans K5)
      have i2 : (s3.groups : Int) < 4 := by omega
      have c4' := P4.out.c4
      have f4' := P4.out.fz 4
      go_upto_region 15 with fail
      clear c3 c4 c4' f4' P3 K3 b4 nb4
      generalize hw4 : w3.alloc (.cells #[.int .i64 6, .slice none 0 0, .int .i64 0, .int .i64 0, .bool false, .int .i64 0, .int .i64 1] 35) = w4 at P4 K4 NB4 ⊢
      have hNl : w3.heap.size < w4.heap.size := heap_lt NB4.out
      clear hw4
      generalize w3.heap.size = Nb at NB4 hNb hNP hH3 hNl ⊢
      have p5 := P4.out.set_groups (j := s3.groups + 1) (by omega)
      rw [Int.natCast_add] at p5
      have P5 : Hid (Pz c (w4.setCell ⟨c.P, 4, none⟩ (.int .i64 ((s3.groups : Int) + 1))) { s3 with groups := s3.groups + 1 }) := Lib.hid p5
      have K5 := Lib.hid (K4.out.trans (Kp.set c.P 4 w4 (.int .i64 ((s3.groups : Int) + 1))))
      have NB5 : Hid ((w4.setCell ⟨c.P, 4, none⟩ (.int .i64 ((s3.groups : Int) + 1))).heap[Nb]? = _) := Lib.hid ((Below.heap_setCell _ _ _ _ hNP).trans NB4.out)
      have hNl5 : Nb < (w4.setCell ⟨c.P, 4, none⟩ (.int .i64 ((s3.groups : Int) + 1))).heap.size := heap_lt NB5.out
      clear P4 K4 NB4 hNl p5
      generalize w4.setCell ⟨c.P, 4, none⟩ (.int .i64 ((s3.groups : Int) + 1)) = w5 at P5 K5 NB5 hNl5 ⊢
      have c4 := P5.out.c4
      have d5 := cell_of_obj (o := 5) (u := .int .i64 0) NB5.out rfl
      have z5 := frozen_of_obj (o := 5) NB5.out
      simp only [Int.natCast_add] at c4
      go_upto_region 16 with fail
      have bN : Below Nb w5 (w5.setCell ⟨Nb, 5, none⟩ (.int .i64 ((s3.groups : Int) + 1))) := (Below.refl Nb w5).setCell (p := ⟨Nb, 5, none⟩) (Nat.le_refl Nb) _
      have P6 := Lib.hid (P5.out.keepB bN (by omega))
      have K6 := Lib.hid (K5.out.thenB bN hNb)
      have NB6 : Hid ((w5.setCell ⟨Nb, 5, none⟩ (.int .i64 ((s3.groups : Int) + 1))).heap[Nb]? = some (.cells #[.int .i64 6, .slice none 0 0, .int .i64 0, .int .i64 0, .bool false, .int .i64 ((s3.groups : Int) + 1), .int .i64 1] 35)) := Lib.hid (by rw [obj_set NB5.out]; rfl)
      clear P5 K5 NB5 c4 d5 z5 bN
      generalize w5.setCell ⟨Nb, 5, none⟩ (.int .i64 ((s3.groups : Int) + 1)) = w6 at P6 K6 NB6 ⊢
      have hNl : Nb < w6.heap.size := heap_lt NB6.out
      have e1 := HG.out
      rw [group2_cap hd hm] at e1
      have HG2 := Lib.hid e1
      clear e1 HG
      have c3 := P6.out.c3
      have f3 := P6.out.fz 3
      try simp only at c3
      go_upto_region 17 with fail
      have p7 := P6.out.set_opens (j := s3.opens + 1) (by omega)
      rw [Int.natCast_add] at p7
      have P7 : Hid (Pz c (w6.setCell ⟨c.P, 3, none⟩ (.int .i64 ((s3.opens : Int) + 1))) { s3 with groups := s3.groups + 1, opens := s3.opens + 1 }) := Lib.hid p7
      have K7 := Lib.hid (K6.out.trans (Kp.set c.P 3 w6 (.int .i64 ((s3.opens : Int) + 1))))
      have NB7 : Hid ((w6.setCell ⟨c.P, 3, none⟩ (.int .i64 ((s3.opens : Int) + 1))).heap[Nb]? = _) := Lib.hid ((Below.heap_setCell _ _ _ _ hNP).trans NB6.out)
      clear P6 K6 NB6 c3 f3 p7 hNl
      generalize w6.setCell ⟨c.P, 3, none⟩ (.int .i64 ((s3.opens : Int) + 1)) = w7 at P7 K7 NB7 ⊢
      have AO := Lib.hid (A { s3 with groups := s3.groups + 1, opens := s3.opens + 1 } P7.out.le P7.out.gr)
      have hl7 := P7.out.le
      go_wp2_with fail
      refine (C { s3 with groups := s3.groups + 1, opens := s3.opens + 1 } w7 P7.out (by have := HO.out; simp only; omega) H0.out).mono ?_
      rintro e w8 ⟨x, rfl, p8, k8, nd8⟩
      generalize alt { s3 with groups := s3.groups + 1, opens := s3.opens + 1 } = a at p8 nd8 AO HG2
      obtain ⟨t8, l⟩ := a
      simp only at p8 nd8 AO HG2
      have hop : t8.opens = s3.opens + 1 := AO.out.1.op
      have HLEN : Hid (l.length ≤ 1000) := Lib.hid (by have h1 := AO.out.2; have h2 := AO.out.1.len; have := P7.out.len; omega)
      have K8 := Lib.hid (K7.out.trans k8)
      have hNl : Nb < w7.heap.size := heap_lt NB7.out
      have NB8 := Lib.hid ((k8.block Nb hNl (by simpa using hNP)).trans NB7.out)
      have ND8 := Lib.hid (nd8.mono K7.out.size)
      have c3 := p8.c3
      have f3 := p8.fz 3
      rw [hop] at c3
      have P8 := Lib.hid p8
      clear p8 k8 nd8 P7 K7 NB7 hNl AO hl7
      go_upto_region 19 with fail
      have p9 := P8.out.set_opens (j := t8.opens - 1) (by omega)
      have ej : ((t8.opens - 1 : Nat) : Int) = (s3.opens : Int) := by omega
      rw [ej] at p9
      have P9 := Lib.hid p9
      have k9 := Kp.set c.P 3 w8 (.int .i64 (s3.opens : Int))
      have K9 := Lib.hid (K8.out.trans k9)
      have NB9 : Hid ((w8.setCell ⟨c.P, 3, none⟩ (.int .i64 (s3.opens : Int))).heap[Nb]? = _) := Lib.hid ((Below.heap_setCell _ _ _ _ hNP).trans NB8.out)
      have ND9 := Lib.hid (ND8.out.kp k9 hPw)
      clear P8 K8 NB8 ND8 c3 f3 p9 k9 ej hop
      generalize w8.setCell ⟨c.P, 3, none⟩ (.int .i64 (s3.opens : Int)) = w9 at P9 K9 NB9 ND9 ⊢
      generalize ({ t8 with opens := t8.opens - 1 } : Ps) = s5 at P9 HG2
      have c5 := P9.out.c5
      by_cases he : s5.err = 0
      · rw [he] at c5
        have SK := Lib.hid (skipC P9.out 41)
        cases hR : isR c.G s5 41
        · have e1 := HG2.out
          rw [group3_open he hR] at e1
          have hs : skipS c.G s5 41 = s5 := by simp [skipS, hR]
          rw [hs, hR] at SK
          have E1 := Lib.hid e1
          clear e1 hs hR HG2 he
          go_wp2_with fail
          refine SK.out.mono ?_
          rintro e w10 ⟨rfl, p10, k10⟩
          have P10 := Lib.hid p10
          have K10 := Lib.hid (K9.out.trans k10)
          clear p10 k10
          go_wp2_with fail
          refine (wrongC P10.out hi 4).mono ?_
          rintro e w11 ⟨rfl, P11, K11⟩
          go_wp2_with fail
          go_ret
          rw [← E1.out]
          exact ndPost_nil P11 (K10.out.trans K11)
        · have e1 := HG2.out
          rw [group3_ok he hR, if_neg (by decide)] at e1
          have hs : skipS c.G s5 41 = s5.next := by simp [skipS, hR]
          rw [hs, hR] at SK
          have E1 := Lib.hid e1.symm
          clear e1 hs hR HG2 he
          go_wp2_with fail
          refine SK.out.mono ?_
          rintro e w10 ⟨rfl, p10, k10⟩
          have P10 := Lib.hid p10
          have K10 := Lib.hid (K9.out.trans k10)
          have ND10 := Lib.hid (ND9.out.kp k10 hPw)
          have NB10 := Lib.hid ((k10.block Nb (heap_lt NB9.out) (by simpa using hNP)).trans NB9.out)
          clear p10 k10 P9 K9 ND9 NB9 c5 SK
          have nb := NB10.out
          have d0 := cell_of_obj (o := 0) nb rfl
          have d1 := cell_of_obj (o := 1) nb rfl
          have d2 := cell_of_obj (o := 2) nb rfl
          have d3 := cell_of_obj (o := 3) nb rfl
          have d4 := cell_of_obj (o := 4) nb rfl
          have d5 := cell_of_obj (o := 5) nb rfl
          have d6 := cell_of_obj (o := 6) nb rfl
          simp only [List.getElem_toArray, List.getElem_cons_zero, List.getElem_cons_succ] at d0 d1 d2 d3 d4 d5 d6
          obtain ⟨ls, hls, hnv⟩ := ND10.out
          obtain ⟨p, hp1, hp2, hp3⟩ := hnv.pv
          subst hp2
          have o1 : OwnN w10.heap.size (w10.alloc (.cells #[.int .i64 6, .slice none 0 0, .int .i64 0, .int .i64 0, .bool false, .int .i64 ((s3.groups : Int) + 1), .int .i64 1] 35)) (.slice (some ⟨w10.heap.size, 0, none⟩) 1 1) [⟨{ nd 6 with cap := ((s3.groups : Int) + 1), kids := 1 }, none, 0, 0⟩] := own_lit w10 _ _ 1 rfl eN_len rfl (Nat.le_refl _) (by omega)
          have rd1 := (NdsV.rd (hnv.kept ((Below.refl w10.heap.size w10).alloc (Nat.le_refl _) (.cells #[.int .i64 6, .slice none 0 0, .int .i64 0, .int .i64 0, .bool false, .int .i64 ((s3.groups : Int) + 1), .int .i64 1] 35)))).2
          have O1 := Lib.hid o1
          have RD1 := Lib.hid rd1
          have HNV := Lib.hid hnv
          have HLS := Lib.hid hls
          have HP3 := Lib.hid hp3
          have hs10 : w10.heap.size ≤ (w10.alloc (.cells #[.int .i64 6, .slice none 0 0, .int .i64 0, .int .i64 0, .bool false, .int .i64 ((s3.groups : Int) + 1), .int .i64 1] 35)).heap.size := by simp
          have hmx : [(⟨{ nd 6 with cap := ((s3.groups : Int) + 1), kids := 1 }, none, 0, 0⟩ : NdV)].length + ls.length ≤ 1000000000 := by
            have e : ls.length = l.length := by rw [← hls]; simp
            have := HLEN.out
            simp
            omega
          clear o1 rd1 hnv hls nb hp1 hp3
          go_wp2_with (at_builtin; go_must (refine wpList_app elem_nd rfl rfl rfl rfl O1.out RD1.out HP3.out eN_len eN_one hmx (by omega) hs10 ?_; intro v2 w2x o2 g2))
          go_ret
          rw [E1.out]
          have b2 : Below w10.heap.size w10 w2x := Below.grow ((Below.refl w10.heap.size w10).alloc (Nat.le_refl _) _) O1.out g2 (Nat.le_refl _) hs10
          have nn := nds_cons (y := ⟨{ nd 6 with cap := ((s3.groups : Int) + 1), kids := 1 }, none, 0, 0⟩) K10.out.size (Own.nil _ _ _ _ _) HNV.out.2 o2 b2
          rw [HLS.out] at nn
          exact ⟨_, rfl, P10.out.keep b2, K10.out.trans (Kp.below b2), nn⟩
      · have e1 := HG2.out
        rw [group3_err he, if_neg (by decide)] at e1
        have E1 := Lib.hid e1.symm
        have he' : (s5.err == 0) = false := by simpa using he
        have P10 := P9
        have K10 := K9
        have ND10 := ND9
        have NB10 := NB9
        clear e1 HG2 he P9 K9 ND9 NB9
        generalize w9 = w10 at P10 K10 ND10 NB10 c5 ⊢
        generalize s5.err = ee at c5 he'
        have nb := NB10.out
        have d0 := cell_of_obj (o := 0) nb rfl
        have d1 := cell_of_obj (o := 1) nb rfl
        have d2 := cell_of_obj (o := 2) nb rfl
        have d3 := cell_of_obj (o := 3) nb rfl
        have d4 := cell_of_obj (o := 4) nb rfl
        have d5 := cell_of_obj (o := 5) nb rfl
        have d6 := cell_of_obj (o := 6) nb rfl
        simp only [List.getElem_toArray, List.getElem_cons_zero, List.getElem_cons_succ] at d0 d1 d2 d3 d4 d5 d6
        obtain ⟨ls, hls, hnv⟩ := ND10.out
        obtain ⟨p, hp1, hp2, hp3⟩ := hnv.pv
        subst hp2
        have o1 : OwnN w10.heap.size (w10.alloc (.cells #[.int .i64 6, .slice none 0 0, .int .i64 0, .int .i64 0, .bool false, .int .i64 ((s3.groups : Int) + 1), .int .i64 1] 35)) (.slice (some ⟨w10.heap.size, 0, none⟩) 1 1) [⟨{ nd 6 with cap := ((s3.groups : Int) + 1), kids := 1 }, none, 0, 0⟩] := own_lit w10 _ _ 1 rfl eN_len rfl (Nat.le_refl _) (by omega)
        have rd1 := (NdsV.rd (hnv.kept ((Below.refl w10.heap.size w10).alloc (Nat.le_refl _) (.cells #[.int .i64 6, .slice none 0 0, .int .i64 0, .int .i64 0, .bool false, .int .i64 ((s3.groups : Int) + 1), .int .i64 1] 35)))).2
        have O1 := Lib.hid o1
        have RD1 := Lib.hid rd1
        have HNV := Lib.hid hnv
        have HLS := Lib.hid hls
        have HP3 := Lib.hid hp3
        have hs10 : w10.heap.size ≤ (w10.alloc (.cells #[.int .i64 6, .slice none 0 0, .int .i64 0, .int .i64 0, .bool false, .int .i64 ((s3.groups : Int) + 1), .int .i64 1] 35)).heap.size := by simp
        have hmx : [(⟨{ nd 6 with cap := ((s3.groups : Int) + 1), kids := 1 }, none, 0, 0⟩ : NdV)].length + ls.length ≤ 1000000000 := by
          have e : ls.length = l.length := by rw [← hls]; simp
          have := HLEN.out
          simp
          omega
        clear o1 rd1 hnv hls nb hp1 hp3
        go_wp2_with (at_builtin; go_must (refine wpList_app elem_nd rfl rfl rfl rfl O1.out RD1.out HP3.out eN_len eN_one hmx (by omega) hs10 ?_; intro v2 w2x o2 g2))
        go_ret
        rw [E1.out]
        have b2 : Below w10.heap.size w10 w2x := Below.grow ((Below.refl w10.heap.size w10).alloc (Nat.le_refl _) _) O1.out g2 (Nat.le_refl _) hs10
        have nn := nds_cons (y := ⟨{ nd 6 with cap := ((s3.groups : Int) + 1), kids := 1 }, none, 0, 0⟩) K10.out.size (Own.nil _ _ _ _ _) HNV.out.2 o2 b2
        rw [HLS.out] at nn
        exact ⟨_, rfl, P10.out.keep b2, K10.out.trans (Kp.below b2), nn⟩
  · have hs : skipS c.G s.next 63 = s.next.next := by simp [skipS, hf]
    rw [hs, hf] at SK
    have HF := Lib.hid hf
    clear hs hf
    go_wp2_with fail
    refine SK.out.mono ?_
    rintro e w2 ⟨rfl, p2, k2⟩
    have K2 := Lib.hid (K1.out.trans k2)
    have SK2 := Lib.hid (skipC p2 58)
    clear p2 k2 SK K1 P1
    cases h2 : isR c.G s.next.next 58
    · have e1 := HQ.out
      rw [groupF_no HF.out h2] at e1
      have E1 := Lib.hid e1
      have hs : skipS c.G s.next.next 58 = s.next.next := by simp [skipS, h2]
      rw [hs, h2] at SK2
      clear e1 hs h2 HQ
      go_wp2_with fail
      refine SK2.out.mono ?_
      rintro e w3 ⟨rfl, p3, k3⟩
      have P3 := Lib.hid p3
      have K3 := Lib.hid (K2.out.trans k3)
      clear p3 k3
      go_wp2_with fail
      refine (wrongC P3.out hi 4).mono ?_
      rintro e w4 ⟨rfl, P4, K4⟩
      go_wp2_with fail
      go_ret
      rw [← E1.out]
      exact ndPost_nil P4 (K3.out.trans K4)
    · have e1 := HQ.out
      rw [groupF_free HF.out h2] at e1
      have HG := Lib.hid e1
      have hs : skipS c.G s.next.next 58 = s.next.next.next := by simp [skipS, h2]
      rw [hs, h2] at SK2
      have HO := Lib.hid (show s.next.next.next.opens = s.opens from rfl)
      have H0' := Lib.hid (show s.next.next.next.err = 0 from H0.out)
      clear e1 hs h2 HQ H0
      have H0 := H0'
      clear H0'
      go_wp2_with fail
      refine SK2.out.mono ?_
      rintro e w3 ⟨rfl, p3, k3⟩
      have P3 := Lib.hid p3
      have K3 := Lib.hid (K2.out.trans k3)
      clear p3 k3 SK2 K2
      generalize s.next.next.next = s3 at P3 HG HO H0
      have c3 := P3.out.c3
      have hH3 := P3.out.hH
      by_cases hd : 20 ≤ s3.opens
      · have i1 : (20 : Int) ≤ (s3.opens : Int) := by omega
        have e1 := HG.out
        rw [group2_deep hd] at e1
        have E1 := Lib.hid e1
        clear e1 HG
        go_wp2_with fail
        refine (wrongC P3.out hi 10).mono ?_
        rintro e w4 ⟨rfl, P4, K4⟩
        go_wp2_with fail
        go_ret
        rw [← E1.out]
        exact ndPost_nil P4 (K3.out.trans K4)
      · have i1 : (s3.opens : Int) < 20 := by omega
        have b4 := (Below.refl w3.heap.size w3).alloc (Nat.le_refl _) (.cells #[.int .i64 6, .slice none 0 0, .int .i64 0, .int .i64 0, .bool false, .int .i64 0, .int .i64 1] 35)
        have nb4 := heap_alloc_new w3 (.cells #[.int .i64 6, .slice none 0 0, .int .i64 0, .int .i64 0, .bool false, .int .i64 0, .int .i64 1] 35)
        have P4 := Lib.hid (P3.out.keep b4)
        have K4 := Lib.hid (K3.out.trans (Kp.below b4))
        have NB4 := Lib.hid nb4
        have hNb : w.heap.size ≤ w3.heap.size := K3.out.size
        have hNP : w3.heap.size ≠ c.P := by have := P3.out.lt; omega
        go_upto_region 16 with fail
        clear c3 P3 K3 b4 nb4
        generalize hw4 : w3.alloc (.cells #[.int .i64 6, .slice none 0 0, .int .i64 0, .int .i64 0, .bool false, .int .i64 0, .int .i64 1] 35) = w4 at P4 K4 NB4 ⊢
        have hNl : w3.heap.size < w4.heap.size := heap_lt NB4.out
        clear hw4
        generalize w3.heap.size = Nb at NB4 hNb hNP hH3 hNl ⊢
        have P6 := P4
        have K6 := K4
        have NB6 := NB4
        clear P4 K4 NB4
        generalize w4 = w6 at P6 K6 NB6 hNl ⊢
        have e1 := HG.out
        rw [group2_free hd] at e1
        have HG2 := Lib.hid e1
        clear e1 HG
        have c3 := P6.out.c3
        have f3 := P6.out.fz 3
        try simp only at c3
        go_upto_region 17 with fail
        have p7 := P6.out.set_opens (j := s3.opens + 1) (by omega)
        rw [Int.natCast_add] at p7
        have P7 : Hid (Pz c (w6.setCell ⟨c.P, 3, none⟩ (.int .i64 ((s3.opens : Int) + 1))) { s3 with opens := s3.opens + 1 }) := Lib.hid p7
        have K7 := Lib.hid (K6.out.trans (Kp.set c.P 3 w6 (.int .i64 ((s3.opens : Int) + 1))))
        have NB7 : Hid ((w6.setCell ⟨c.P, 3, none⟩ (.int .i64 ((s3.opens : Int) + 1))).heap[Nb]? = _) := Lib.hid ((Below.heap_setCell _ _ _ _ hNP).trans NB6.out)
        clear P6 K6 NB6 c3 f3 p7 hNl
        generalize w6.setCell ⟨c.P, 3, none⟩ (.int .i64 ((s3.opens : Int) + 1)) = w7 at P7 K7 NB7 ⊢
        have AO := Lib.hid (A { s3 with opens := s3.opens + 1 } P7.out.le P7.out.gr)
        have hl7 := P7.out.le
        go_wp2_with fail
        refine (C { s3 with opens := s3.opens + 1 } w7 P7.out (by have := HO.out; simp only; omega) H0.out).mono ?_
        rintro e w8 ⟨x, rfl, p8, k8, nd8⟩
        generalize alt { s3 with opens := s3.opens + 1 } = a at p8 nd8 AO HG2
        obtain ⟨t8, l⟩ := a
        simp only at p8 nd8 AO HG2
        have hop : t8.opens = s3.opens + 1 := AO.out.1.op
        have HLEN : Hid (l.length ≤ 1000) := Lib.hid (by have h1 := AO.out.2; have h2 := AO.out.1.len; have := P7.out.len; omega)
        have K8 := Lib.hid (K7.out.trans k8)
        have hNl : Nb < w7.heap.size := heap_lt NB7.out
        have NB8 := Lib.hid ((k8.block Nb hNl (by simpa using hNP)).trans NB7.out)
        have ND8 := Lib.hid (nd8.mono K7.out.size)
        have c3 := p8.c3
        have f3 := p8.fz 3
        rw [hop] at c3
        have P8 := Lib.hid p8
        clear p8 k8 nd8 P7 K7 NB7 hNl AO hl7
        go_upto_region 19 with fail
        have p9 := P8.out.set_opens (j := t8.opens - 1) (by omega)
        have ej : ((t8.opens - 1 : Nat) : Int) = (s3.opens : Int) := by omega
        rw [ej] at p9
        have P9 := Lib.hid p9
        have k9 := Kp.set c.P 3 w8 (.int .i64 (s3.opens : Int))
        have K9 := Lib.hid (K8.out.trans k9)
        have NB9 : Hid ((w8.setCell ⟨c.P, 3, none⟩ (.int .i64 (s3.opens : Int))).heap[Nb]? = _) := Lib.hid ((Below.heap_setCell _ _ _ _ hNP).trans NB8.out)
        have ND9 := Lib.hid (ND8.out.kp k9 hPw)
        clear P8 K8 NB8 ND8 c3 f3 p9 k9 ej hop
        generalize w8.setCell ⟨c.P, 3, none⟩ (.int .i64 (s3.opens : Int)) = w9 at P9 K9 NB9 ND9 ⊢
        generalize ({ t8 with opens := t8.opens - 1 } : Ps) = s5 at P9 HG2
        have c5 := P9.out.c5
        by_cases he : s5.err = 0
        · rw [he] at c5
          have SK := Lib.hid (skipC P9.out 41)
          cases hR : isR c.G s5 41
          · have e1 := HG2.out
            rw [group3_open he hR] at e1
            have hs : skipS c.G s5 41 = s5 := by simp [skipS, hR]
            rw [hs, hR] at SK
            have E1 := Lib.hid e1
            clear e1 hs hR HG2 he
            go_wp2_with fail
            refine SK.out.mono ?_
            rintro e w10 ⟨rfl, p10, k10⟩
            have P10 := Lib.hid p10
            have K10 := Lib.hid (K9.out.trans k10)
            clear p10 k10
            go_wp2_with fail
            refine (wrongC P10.out hi 4).mono ?_
            rintro e w11 ⟨rfl, P11, K11⟩
            go_wp2_with fail
            go_ret
            rw [← E1.out]
            exact ndPost_nil P11 (K10.out.trans K11)
          · have e1 := HG2.out
            rw [group3_ok he hR, if_pos rfl] at e1
            have hs : skipS c.G s5 41 = s5.next := by simp [skipS, hR]
            rw [hs, hR] at SK
            have E1 := Lib.hid e1.symm
            clear e1 hs hR HG2 he
            go_wp2_with fail
            refine SK.out.mono ?_
            rintro e w10 ⟨rfl, p10, k10⟩
            have P10 := Lib.hid p10
            have K10 := Lib.hid (K9.out.trans k10)
            have ND10 := Lib.hid (ND9.out.kp k10 hPw)
            have NB10 := Lib.hid ((k10.block Nb (heap_lt NB9.out) (by simpa using hNP)).trans NB9.out)
            clear p10 k10 P9 K9 ND9 NB9 c5 SK
            go_wp2_with fail
            go_ret
            rw [E1.out]
            exact ⟨_, rfl, P10.out, K10.out, ND10.out⟩
        · have e1 := HG2.out
          rw [group3_err he, if_pos rfl] at e1
          have E1 := Lib.hid e1.symm
          have he' : (s5.err == 0) = false := by simpa using he
          have P10 := P9
          have K10 := K9
          have ND10 := ND9
          have NB10 := NB9
          clear e1 HG2 he P9 K9 ND9 NB9
          generalize w9 = w10 at P10 K10 ND10 NB10 c5 ⊢
          generalize s5.err = ee at c5 he'
          go_wp2_with fail
          go_ret
          rw [E1.out]
          exact ⟨_, rfl, P10.out, K10.out, ND10.out⟩
end Go.Proofs.YtooockbfagkknaaGreatDoor.syn
