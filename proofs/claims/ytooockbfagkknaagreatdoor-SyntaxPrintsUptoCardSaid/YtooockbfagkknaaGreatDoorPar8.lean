/- often, walked. -/
import Derived.Test.YtooockbfagkknaaGreatDoorPar7
namespace Go.Proofs.YtooockbfagkknaaGreatDoor.syn
open Go.RowKit Go.Proofs.YtooockbfagkknaaGreatDoor.sl Go.Proofs.YtooockbfagkknaaGreatDoor.cls
variable {c : Cx} {w : World} {s : Ps}
def OfPost (c : Cx) (w : World) (r : Ps × Int × Int) (e : Ending) (w' : World) : Prop :=
  e = .returned (.tuple #[.int .i64 r.2.1, .int .i64 r.2.2]) ∧ Pz c w' r.1 ∧ Kp c.P w w'
theorem often_no {G : List Gt} {f : Nat} {t : Ps} {m n : List UInt8} {en : Bool} : often2 G f t m n false en = (t.wrong G f 4, 0, 0) := rfl
theorem often_open {G : List Gt} {f : Nat} {t : Ps} {m n : List UInt8} {en : Bool} (h : isR G t 125 = false) : often2 G f t m n true en = (t.wrong G f 4, 0, 0) := by
  simp [often2, h]
theorem often_less {G : List Gt} {f : Nat} {t : Ps} {m n : List UInt8} (h : isR G t 125 = true) (hl : lessB n m = true) : often2 G f t m n true false = (t.next.wrong G f 4, 0, 0) := by
  simp [often2, h, hl]
theorem often_long {G : List Gt} {f : Nat} {t : Ps} {m n : List UInt8} {en : Bool} (h : isR G t 125 = true) (hl : ¬ (en = false ∧ lessB n m = true)) (hv : (valF m).2 = false ∨ (valF (if en = true then [] else n)).2 = false) : often2 G f t m n true en = (t.next.wrong G f 2, 0, 0) := by
  simp only [often2]
  rw [if_neg (by decide), if_neg (by rw [h]; decide), if_neg hl, if_pos hv]
theorem often_ok {G : List Gt} {f : Nat} {t : Ps} {m n : List UInt8} {en : Bool} (h : isR G t 125 = true) (hl : ¬ (en = false ∧ lessB n m = true)) (h1 : (valF m).2 = true) (h2 : (valF (if en = true then [] else n)).2 = true) : often2 G f t m n true en = (t.next, (valF m).1, if en = true then -1 else (valF (if en = true then [] else n)).1) := by
  simp only [often2]
  rw [if_neg (by decide), if_neg (by rw [h]; decide), if_neg hl, if_neg (by rw [h1, h2]; decide)]
theorem oftenF_no {G : List Gt} (h : digK G s.next = false) : oftenF G s = often2 G s.i (digS G s.next) (digB G s.next) (digB G s.next) false false := by
  simp [oftenF, h]
theorem oftenF_one {G : List Gt} (h : digK G s.next = true) (hR : isR G (digS G s.next) 44 = false) : oftenF G s = often2 G s.i (digS G s.next) (digB G s.next) (digB G s.next) true false := by
  simp [oftenF, h, hR]
theorem oftenF_two {G : List Gt} (h : digK G s.next = true) (hR : isR G (digS G s.next) 44 = true) : oftenF G s = often2 G s.i (digS G (digS G s.next).next) (digB G s.next) (digB G (digS G s.next).next) true (!digK G (digS G s.next).next) := by
  simp [oftenF, h, hR]
theorem digB_dig {G : List Gt} {t : Ps} : DigB (digB G t) := digGo_dig _ _ _ (by intro x hx; cases hx)
theorem digB_len {G : List Gt} {t : Ps} (h : t.i ≤ G.length) (hG : G.length ≤ 120) : (digB G t).length ≤ 1000000 := by
  have := digGo_le (G := G) (G.length - t.i) t.i []
  show (digGo G (G.length - t.i) t.i []).2.length ≤ _
  have h2 := this.2.1
  have h3 := this.2.2
  simp at h3
  omega
set_option maxHeartbeats 4000000 in
set_option maxRecDepth 100000 in
theorem oftenC (h : Pz c w s) (hi0 : s.i < c.G.length) : Calls Tryz.prog 68 #[.pointer (some ⟨c.P, 0, none⟩)] w (OfPost c w (oftenF c.G s)) := by
  have c2 := h.c2
  have f2 := h.fz 2
  have hln := h.len
  have P1 := Lib.hid (h.step hi0)
  have K1 := Lib.hid (Kp.set c.P 2 w (.int .i64 ((s.i : Int) + 1)))
  clear h
  suffices key : ∀ r, oftenF c.G s = r → Calls Tryz.prog 68 #[.pointer (some ⟨c.P, 0, none⟩)] w (OfPost c w r) from key _ rfl
  intro r hr
  have HQ := Lib.hid hr
  clear hr
  go_enter Tryz.func68, Tryz.ntmps68
  go_upto_region 3 with fail
  generalize w.setCell ⟨c.P, 2, none⟩ (.int .i64 ((s.i : Int) + 1)) = w1 at P1 K1 ⊢
  clear c2 f2
  go_wp2_with fail
  refine (digitsC P1.out).mono ?_
  rintro e w2 ⟨rfl, p2, k2⟩
  have P2 := Lib.hid p2
  have K2 := Lib.hid (K1.out.trans k2)
  have DM : Hid (DigB (digB c.G s.next)) := Lib.hid digB_dig
  have HLM : Hid ((digB c.G s.next).length ≤ 1000000) := Lib.hid (digB_len P1.out.le hln)
  have CN := Lib.hid (oftenF_no (G := c.G) (s := s))
  have CO := Lib.hid (oftenF_one (G := c.G) (s := s))
  have CT := Lib.hid (oftenF_two (G := c.G) (s := s))
  clear p2 k2 P1 K1
  generalize digB c.G s.next = m at DM HLM CN CO CT ⊢
  generalize digK c.G s.next = ok at CN CO CT ⊢
  generalize digS c.G s.next = t at P2 CN CO CT
  cases ok
  · have e1 := CN.out (by simp)
    rw [HQ.out, often_no] at e1
    have E1 := Lib.hid e1
    clear e1 CN CO CT HQ
    go_wp2_with fail
    refine (wrongC P2.out hi0 4).mono ?_
    rintro e w3 ⟨rfl, P3, K3⟩
    go_wp2_with fail
    go_ret2
    rw [E1.out]
    exact ⟨rfl, P3, K2.out.trans K3⟩
  · go_upto_if 35 with fail
    refine (skipC P2.out 44).mono ?_
    rintro e w3 ⟨rfl, p3, k3⟩
    have P3 := Lib.hid p3
    have K3 := Lib.hid (K2.out.trans k3)
    clear p3 k3 P2 K2
    go_upto_if 35 with fail
    go_cut [7, 8] (fun nv ev wx => ∃ (t2 : Ps) (n : List UInt8) (en : Bool), nv = str n ∧ ev = .bool en ∧ Pz c wx t2 ∧ Kp c.P w wx ∧ r = often2 c.G s.i t2 m n true en ∧ DigB n ∧ n.length ≤ 1000000)
    case first =>
      cases hR : isR c.G t 44
      · have e1 := CO.out (by simp) hR
        rw [HQ.out] at e1
        have hs : skipS c.G t 44 = t := by simp [skipS, hR]
        rw [hs] at P3
        have E1 := Lib.hid e1
        clear e1 hs hR CN CO CT HQ
        go_wp2_with fail
        go_meet
        exact ⟨t, m, false, rfl, rfl, P3.out, K3.out, E1.out, DM.out, HLM.out⟩
      · have e1 := CT.out (by simp) hR
        rw [HQ.out] at e1
        have hs : skipS c.G t 44 = t.next := by simp [skipS, hR]
        rw [hs] at P3
        have E1 := Lib.hid e1
        have DN : Hid (DigB (digB c.G t.next)) := Lib.hid digB_dig
        have HLN : Hid ((digB c.G t.next).length ≤ 1000000) := Lib.hid (digB_len P3.out.le hln)
        clear e1 hs hR CN CO CT HQ
        go_wp2_with fail
        refine (digitsC P3.out).mono ?_
        rintro e w4 ⟨rfl, p4, k4⟩
        have P4 := Lib.hid p4
        have K4 := Lib.hid (K3.out.trans k4)
        clear p4 k4 P3 K3
        generalize digB c.G t.next = n at DN HLN E1 ⊢
        generalize digK c.G t.next = there at E1 ⊢
        generalize digS c.G t.next = t2 at P4 E1
        go_wp2_with fail
        go_meet
        exact ⟨t2, n, !there, rfl, rfl, P4.out, K4.out, E1.out, DN.out, HLN.out⟩
    case rest =>
      obtain ⟨t2, n, en, rfl, rfl, p, k, hq, hd, hl⟩ := hcut
      have HQ2 := Lib.hid hq
      have DN := Lib.hid hd
      have HLN := Lib.hid hl
      have SK := Lib.hid (skipC p 125)
      have K := Lib.hid k
      clear p k hq hd hl P3 K3 CN CO CT HQ
      generalize wc = w4 at SK K
      cases hR : isR c.G t2 125
      · have e1 := HQ2.out
        rw [often_open hR] at e1
        have hs : skipS c.G t2 125 = t2 := by simp [skipS, hR]
        rw [hs, hR] at SK
        have E1 := Lib.hid e1
        clear e1 hs hR HQ2
        go_wp2_with fail
        refine SK.out.mono ?_
        rintro e w5 ⟨rfl, p5, k5⟩
        have P5 := Lib.hid p5
        have K5 := Lib.hid (K.out.trans k5)
        clear p5 k5
        go_wp2_with fail
        refine (wrongC P5.out hi0 4).mono ?_
        rintro e w6 ⟨rfl, P6, K6⟩
        go_wp2_with fail
        go_ret2
        rw [E1.out]
        exact ⟨rfl, P6, K5.out.trans K6⟩
      · have HR := Lib.hid hR
        have hs : skipS c.G t2 125 = t2.next := by simp [skipS, hR]
        rw [hs, hR] at SK
        clear hs hR
        have HQ3 := HQ2
        cases en
        · cases hb : lessB n m
          · have HL := Lib.hid hb
            have LS := Lib.hid (lessC n m HLN.out HLM.out)
            rw [hb] at LS
            clear hb
            go_wp2_with fail
            refine SK.out.mono ?_
            rintro e w5 ⟨rfl, p5, k5⟩
            have P4 := Lib.hid p5
            have K4 := Lib.hid (K.out.trans k5)
            clear p5 k5
            go_wp2_with fail
            refine (LS.out _).mono ?_
            rintro e w6 ⟨rfl, rfl⟩
            have VM := Lib.hid (valueC m DM.out HLM.out)
            have VN := Lib.hid (valueC n DN.out HLN.out)
            go_wp2_with fail
            refine (VM.out _).mono ?_
            rintro e w5 ⟨rfl, rfl⟩
            generalize hvm : valF m = vm at *
            obtain ⟨lo, f1⟩ := vm
            go_wp2_with fail
            refine (VN.out _).mono ?_
            rintro e w6 ⟨rfl, rfl⟩
            generalize hvn : valF n = vn at *
            obtain ⟨hi, f2⟩ := vn
            have HVM := Lib.hid hvm
            have HVN := Lib.hid hvn
            clear hvm hvn
            cases f1
            · have e1 := HQ3.out
              rw [often_long (m := m) (n := n) (en := false) HR.out (by rw [HL.out]; simp) (.inl (by rw [HVM.out]))] at e1
              have E1 := Lib.hid e1
              clear e1
              go_wp2_with fail
              refine (wrongC P4.out hi0 2).mono ?_
              rintro e w7 ⟨rfl, P7, K7⟩
              go_wp2_with fail
              go_ret2
              rw [E1.out]
              exact ⟨rfl, P7, K4.out.trans K7⟩
            · cases f2
              · have e1 := HQ3.out
                rw [often_long (m := m) (n := n) (en := false) HR.out (by rw [HL.out]; simp) (.inr (show (valF n).2 = false by rw [HVN.out]))] at e1
                have E1 := Lib.hid e1
                clear e1
                go_wp2_with fail
                refine (wrongC P4.out hi0 2).mono ?_
                rintro e w7 ⟨rfl, P7, K7⟩
                go_wp2_with fail
                go_ret2
                rw [E1.out]
                exact ⟨rfl, P7, K4.out.trans K7⟩
              · have e1 := HQ3.out
                rw [often_ok (m := m) (n := n) (en := false) HR.out (by rw [HL.out]; simp) (by rw [HVM.out]) (show (valF n).2 = true by rw [HVN.out])] at e1
                have E1 := Lib.hid e1
                clear e1
                go_wp2_with fail
                go_ret2
                rw [E1.out, HVM.out, if_neg (by decide), if_neg (by decide), HVN.out]
                exact ⟨rfl, P4.out, K4.out⟩
          · have e1 := HQ2.out
            rw [often_less HR.out hb] at e1
            have E1 := Lib.hid e1
            have LS := Lib.hid (lessC n m HLN.out HLM.out)
            rw [hb] at LS
            clear hb e1
            go_wp2_with fail
            refine SK.out.mono ?_
            rintro e w5 ⟨rfl, p5, k5⟩
            have P4 := Lib.hid p5
            have K4 := Lib.hid (K.out.trans k5)
            clear p5 k5
            go_wp2_with fail
            refine (LS.out _).mono ?_
            rintro e w6 ⟨rfl, rfl⟩
            go_wp2_with fail
            refine (wrongC P4.out hi0 4).mono ?_
            rintro e w7 ⟨rfl, P7, K7⟩
            go_wp2_with fail
            go_ret2
            rw [E1.out]
            exact ⟨rfl, P7, K4.out.trans K7⟩
        · go_wp2_with fail
          refine SK.out.mono ?_
          rintro e w5 ⟨rfl, p5, k5⟩
          have P4 := Lib.hid p5
          have K4 := Lib.hid (K.out.trans k5)
          clear p5 k5
          have VM := Lib.hid (valueC m DM.out HLM.out)
          have VN := Lib.hid (valueC [] (by intro x hx; cases hx) (by simp))
          go_wp2_with fail
          refine (VM.out _).mono ?_
          rintro e w5 ⟨rfl, rfl⟩
          generalize hvm : valF m = vm at *
          obtain ⟨lo, f1⟩ := vm
          go_wp2_with fail
          refine (VN.out _).mono ?_
          rintro e w6 ⟨rfl, rfl⟩
          generalize hvn : valF [] = vn at *
          obtain ⟨hi, f2⟩ := vn
          have HVM := Lib.hid hvm
          have HVN := Lib.hid hvn
          clear hvm hvn
          cases f1
          · have e1 := HQ3.out
            rw [often_long (m := m) (n := n) (en := true) HR.out (by simp) (.inl (by rw [HVM.out]))] at e1
            have E1 := Lib.hid e1
            clear e1
            go_wp2_with fail
            refine (wrongC P4.out hi0 2).mono ?_
            rintro e w7 ⟨rfl, P7, K7⟩
            go_wp2_with fail
            go_ret2
            rw [E1.out]
            exact ⟨rfl, P7, K4.out.trans K7⟩
          · cases f2
            · have e1 := HQ3.out
              rw [often_long (m := m) (n := n) (en := true) HR.out (by simp) (.inr (show (valF []).2 = false by rw [HVN.out]))] at e1
              have E1 := Lib.hid e1
              clear e1
              go_wp2_with fail
              refine (wrongC P4.out hi0 2).mono ?_
              rintro e w7 ⟨rfl, P7, K7⟩
              go_wp2_with fail
              go_ret2
              rw [E1.out]
              exact ⟨rfl, P7, K4.out.trans K7⟩
            · have e1 := HQ3.out
              rw [often_ok (m := m) (n := n) (en := true) HR.out (by simp) (by rw [HVM.out]) (show (valF []).2 = true by rw [HVN.out])] at e1
              have E1 := Lib.hid e1
              clear e1
              go_wp2_with fail
              go_ret2
              rw [E1.out, HVM.out]
              exact ⟨rfl, P4.out, K4.out⟩
end Go.Proofs.YtooockbfagkknaaGreatDoor.syn
