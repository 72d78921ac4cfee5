/- spoorref10: join, closed. -/
import Derived.Test.YtooockbfagkknaaGreatDoorR10d
import Derived.Test.YtooockbfagkknaaGreatDoorRab
import Derived.Test.YtooockbfagkknaaGreatDoorFx
import Derived.Test.YtooockbfagkknaaGreatDoorParse
import Derived.Deep.RegionLaw
namespace Go.Proofs.YtooockbfagkknaaGreatDoor.syn
open Go.RowKit Go.Proofs.YtooockbfagkknaaGreatDoor.sl Go.Proofs.YtooockbfagkknaaGreatDoor.cls
variable {c : Cx} {w : World} {s : Ps}
set_option maxHeartbeats 4000000 in
set_option maxRecDepth 100000 in
theorem joinRC {B : Nat} (op : Int) (a : Option Addr) (vs : List PV) (cap : Nat) (w : World) (h : Rd eP w a vs cap) (hp : ∀ p ∈ vs, NdsV B w p.v p.ls) (hB : B ≤ w.heap.size) (hmax : (vs.flatMap PV.ls).length ≤ 100000) :
    Calls Tryz.prog 36 #[.int .i64 op, .slice a vs.length cap] w fun e w' => ∃ v, e = .returned v ∧ Nds B w' v (joined op (vs.map PV.l)) ∧ Below w.heap.size w w' := by
  have hm := h.max
  have hle := h.le
  unfold maxLen at hm
  have H := Lib.hid h
  have HP := Lib.hid hp
  clear h hp
  rcases vs with _ | ⟨x, _ | ⟨y, t⟩⟩
  · go_enter Tryz.func36, Tryz.ntmps36
    go_wp2_with fail
    go_ret
    exact ⟨_, rfl, ⟨_, rfl, ndsV_one hB ⟨nd 1, none, 0, 0⟩ (Own.nil _ _ _ _ _)⟩, (Below.refl w.heap.size w).alloc (Nat.le_refl _) _⟩
  · obtain ⟨b, off, rfl, hbl, hc⟩ := H.out.cells eP_len (i := 0) (x := x) rfl
    have c0 := hc 0 (.slice x.a x.n x.c) (by omega) rfl
    simp only [Nat.zero_mul, Nat.add_zero] at c0
    have hx := HP.out x (by simp)
    have HX := Lib.hid hx
    clear hc hx
    go_enter Tryz.func36, Tryz.ntmps36
    go_wp2_with fail
    go_ret
    exact ⟨_, rfl, ⟨x.ls, rfl, HX.out⟩, Below.refl _ _⟩
  · rw [joined_two]
    have n1 : True := trivial
    have hl2 : 2 ≤ (x :: y :: t).length := by simp
    generalize x :: y :: t = vs at *
    clear n1
    have z0 : ((vs.length : Int) == 0) = false := by rw [beq_eq_false_iff_ne]; omega
    have z1 : ((vs.length : Int) == 1) = false := by rw [beq_eq_false_iff_ne]; omega
    go_enter Tryz.func36, Tryz.ntmps36
    go_wp2_with fail
    have o0 := ndsV_one hB ⟨{ nd op with kids := vs.length }, none, 0, 0⟩ (Own.nil er 2 58 B w)
    have b0 := (Below.refl w.heap.size w).alloc (Nat.le_refl _) (.cells #[.int .i64 op, .slice none 0 0, .int .i64 0, .int .i64 0, .bool false, .int .i64 0, .int .i64 vs.length] 35)
    have o1 : OwnN w.heap.size (w.alloc (.cells #[.int .i64 op, .slice none 0 0, .int .i64 0, .int .i64 0, .bool false, .int .i64 0, .int .i64 vs.length] 35)) (.slice (some ⟨w.heap.size, 0, none⟩) 1 1) [⟨{ nd op with kids := vs.length }, none, 0, 0⟩] := own_lit w _ _ 1 rfl eN_len rfl (Nat.le_refl _) (by omega)
    have O1 := Lib.hid o1
    have B0 := Lib.hid b0
    clear o0 b0 o1
    generalize hy : (⟨{ nd op with kids := vs.length }, none, 0, 0⟩ : NdV) = y0 at O1
    have HY := Lib.hid hy
    clear hy
    go_loopg [5, 6] vs.length (fun g out i wr => ∃ k : Nat, k ≤ vs.length ∧ g = vs.length - k ∧ i = .int .i64 k ∧ OwnN w.heap.size wr out (y0 :: (vs.take k).flatMap PV.ls) ∧ Below w.heap.size w wr)
    case atStart => exact ⟨0, by omega, rfl, rfl, by simpa using O1.out, B0.out⟩
    case round =>
      clear O1 B0
      obtain ⟨k, hk, rfl, rfl, ho, hb⟩ := hrel
      have HO := Lib.hid ho
      have HB := Lib.hid hb
      have hs := hb.size
      clear ho hb
      by_cases hlt : k < vs.length
      · obtain ⟨p, hx⟩ : ∃ x, vs[k]? = some x := ⟨_, List.getElem?_eq_getElem hlt⟩
        obtain ⟨b, off, rfl, hbl, hc⟩ := (H.out.kept HB.out).cells eP_len hx
        have c0 := hc 0 (.slice p.a p.n p.c) (by omega) rfl
        simp only [Nat.mul_one, Nat.add_zero] at c0
        have hN := (HP.out p (List.mem_of_getElem? hx)).kept HB.out
        obtain ⟨hn, rd⟩ := NdsV.rd hN
        have hmx : (y0 :: (vs.take k).flatMap PV.ls).length + p.ls.length ≤ 1000000000 := by
          have := take_le2 PV.ls vs hx
          rw [List.length_cons]
          omega
        have HX := Lib.hid hx
        have RD := Lib.hid rd
        have HN := Lib.hid hn
        clear hx hc hN rd hn
        go_wp2_with (at_builtin; go_must (refine wpList_app elem_nd rfl rfl rfl rfl HO.out RD.out HN.out eN_len eN_one hmx (by omega) hs ?_); intro v2 w2 o2 g2)
        go_roundg (vs.length - (k + 1))
        case measure => omega
        case rel => exact ⟨k + 1, by omega, rfl, by go_num, by rw [take_flat _ HX.out, ← List.cons_append]; exact o2, Below.grow HB.out HO.out g2 (Nat.le_refl _) hs⟩
      · obtain rfl : k = vs.length := by omega
        go_wp2_with fail
        go_ret
        have ho := HO.out
        rw [List.take_length] at ho
        refine ⟨_, rfl, ⟨_, ?_, ho.mono hB, ?_⟩, HB.out⟩
        · rw [← HY.out]; rfl
        · intro z hz
          rcases List.mem_cons.1 hz with rfl | hz
          · rw [← HY.out]; exact Own.nil _ _ _ _ _
          · obtain ⟨p, hp, hz⟩ := List.mem_flatMap.1 hz
            exact ((HP.out p hp).2 z hz).below HB.out (Nat.le_refl _)
def QePost (c : Cx) (w : World) (r : Ps) (e : Ending) (w' : World) : Prop := e = .returned (.tuple #[]) ∧ Qz c w' r ∧ Kp c.P w w'
set_option maxHeartbeats 4000000 in
set_option maxRecDepth 100000 in
theorem closedRC (h : Qz c w s) (hi : s.i < 900) (f : Nat) : Calls Tryz.prog 100 #[.pointer (some ⟨c.P, 0, none⟩), .int .i64 (place c.G f)] w (QePost c w (rClosed c.G s f)) := by
  have c4 := h.c4
  have P := Lib.hid h
  have FC := Lib.hid (fun (w' : World) (p : Qz c w' s) => failRC p f 4)
  have I41 := Lib.hid (isRC h 41 (by decide) (by decide))
  clear h
  suffices key : ∀ r pf, rClosed c.G s f = r → place c.G f = pf → Calls Tryz.prog 100 #[.pointer (some ⟨c.P, 0, none⟩), .int .i64 pf] w (QePost c w r) from key _ _ rfl rfl
  intro r pf hr hpf
  unfold rClosed at hr
  rw [hpf] at FC
  clear hpf
  by_cases he : s.err = 0
  · rw [he] at c4
    cases h41 : isR c.G s 41
    · rw [if_pos ⟨he, h41⟩] at hr
      rw [h41] at I41
      have HR := Lib.hid hr
      clear hr he h41
      go_enter Tryz.func100, Tryz.ntmps100
      go_wp2_with fail
      refine I41.out.mono ?_
      rintro e w1 ⟨rfl, n1, rfl⟩
      go_wp2_with fail
      refine (FC.out _ (P.out.drewN n1)).mono ?_
      rintro e w2 ⟨rfl, p2, k2⟩
      have hi2 : (s.wrong c.G f 4).i < 900 := by simpa using hi
      generalize s.wrong c.G f 4 = t at p2 HR hi2
      have c2 := p2.c2
      have f2 := p2.fz 2
      have P2 := Lib.hid (p2.step (by omega))
      have K2 := Lib.hid ((Kp.below (P := c.P) (drewN_below (Below.refl w.heap.size w) n1)).trans (k2.trans (Kp.set c.P 2 w2 (.int .i64 ((t.i : Int) + 1)))))
      clear p2 k2 FC I41 P
      go_wp2_with fail
      go_end0
      rw [← HR.out]
      exact ⟨rfl, P2.out, K2.out⟩
    · rw [if_neg (by rw [h41]; simp)] at hr
      rw [h41] at I41
      have HR := Lib.hid hr
      clear hr he h41
      go_enter Tryz.func100, Tryz.ntmps100
      go_wp2_with fail
      refine I41.out.mono ?_
      rintro e w1 ⟨rfl, n1, rfl⟩
      have p2 := P.out.drewN n1
      have c2 := p2.c2
      have f2 := p2.fz 2
      have P2 := Lib.hid (p2.step (by omega))
      have K2 := Lib.hid ((Kp.below (P := c.P) (drewN_below (Below.refl w.heap.size w) n1)).trans (Kp.set c.P 2 _ (.int .i64 ((s.i : Int) + 1))))
      clear p2 FC I41 P
      go_wp2_with fail
      go_end0
      rw [← HR.out]
      exact ⟨rfl, P2.out, K2.out⟩
  · rw [if_neg (fun h => he h.1)] at hr
    have he' : (s.err == 0) = false := by simpa using he
    have HR := Lib.hid hr
    clear hr he FC I41
    have c2 := P.out.c2
    have f2 := P.out.fz 2
    have P2 := Lib.hid (P.out.step (by omega))
    have K2 := Lib.hid (Kp.set c.P 2 w (.int .i64 ((s.i : Int) + 1)))
    generalize s.err = ee at c4 he'
    clear P
    go_enter Tryz.func100, Tryz.ntmps100
    go_wp2_with fail
    go_end0
    rw [← HR.out]
    exact ⟨rfl, P2.out, K2.out⟩
end Go.Proofs.YtooockbfagkknaaGreatDoor.syn
/- spoorref10: group, atom. -/
namespace Go.Proofs.YtooockbfagkknaaGreatDoor.syn
open Go.RowKit Go.Proofs.YtooockbfagkknaaGreatDoor.sl Go.Proofs.YtooockbfagkknaaGreatDoor.cls
variable {c : Cx} {w : World} {s : Ps}
def QnPost (c : Cx) (w : World) (r : Ps × List Nd) (e : Ending) (w' : World) : Prop :=
  ∃ v, e = .returned v ∧ Qz c w' r.1 ∧ Kp c.P w w' ∧ Nds w.heap.size w' v r.2
theorem qnPost_nil {w2 : World} {t : Ps} (P : Qz c w2 t) (K : Kp c.P w w2) : QnPost c w (t, []) (.returned (.slice none 0 0)) w2 := ⟨_, rfl, P, K, Nds.nil _ _⟩
theorem qnPost_pre {w1 w2 : World} {r : Ps × List Nd} {e : Ending} (K : Kp c.P w w1) (h : QnPost c w1 r e w2) : QnPost c w r e w2 := by
  obtain ⟨v, h1, h2, h3, h4⟩ := h
  exact ⟨v, h1, h2, K.trans h3, h4.mono K.size⟩
/-- The reading of what stands in brackets, so deep. -/
def AltRC (c : Cx) (k : Nat) (alt : Ps → Ps × List Nd) : Prop := ∀ (s : Ps) (w : World), Qz c w s → s.i ≤ c.G.length → s.err = 0 → Calls Tryz.prog 19 #[.pointer (some ⟨c.P, 0, none⟩), .int .i64 k] w (QnPost c w (alt s))
theorem rGroup_no {G : List Gt} {alt : Ps → Ps × List Nd} {d f : Nat} (h : isR G s 63 = true) (h2 : isR G s.next 58 = false) : rGroup G alt d s f = (s.wrong G f 4, []) := by simp [rGroup, h, h2]
theorem rGroup_deep {G : List Gt} {alt : Ps → Ps × List Nd} {d f : Nat} (h : ¬ (isR G s 63 = true ∧ isR G s.next 58 = false)) (hd : 20 ≤ d) : rGroup G alt d s f = (s.wrong G f 10, []) := by
  unfold rGroup
  simp only
  rw [if_neg h, if_pos hd]
theorem rGroup_quiet {G : List Gt} {alt : Ps → Ps × List Nd} {d f : Nat} (h : isR G s 63 = true) (h2 : isR G s.next 58 = true) (hd : ¬ 20 ≤ d) : rGroup G alt d s f = (rClosed G (alt s.next.next).1 f, (alt s.next.next).2) := by
  unfold rGroup
  simp only
  rw [if_neg (by rw [h2]; simp), if_neg hd, if_pos h]
theorem rGroup_many {G : List Gt} {alt : Ps → Ps × List Nd} {d f : Nat} (h : isR G s 63 = false) (hd : ¬ 20 ≤ d) (h4 : 4 ≤ s.groups) : rGroup G alt d s f = (s.wrong G f 13, []) := by
  unfold rGroup
  simp only
  rw [if_neg (by rw [h]; simp), if_neg hd, if_neg (by rw [h]; simp), if_pos h4]
theorem rGroup_cap {G : List Gt} {alt : Ps → Ps × List Nd} {d f : Nat} (h : isR G s 63 = false) (hd : ¬ 20 ≤ d) (h4 : ¬ 4 ≤ s.groups) : rGroup G alt d s f = (rClosed G (alt { s with groups := s.groups + 1 }).1 f, { nd 6 with cap := (s.groups + 1 : Nat), kids := 1 } :: (alt { s with groups := s.groups + 1 }).2) := by
  unfold rGroup
  simp only
  rw [if_neg (by rw [h]; simp), if_neg hd, if_neg (by rw [h]; simp), if_neg h4]
set_option maxHeartbeats 8000000 in
set_option maxRecDepth 100000 in
theorem groupRC {m d : Nat} {alt : Ps → Ps × List Nd} (A : AltRA c.G m alt) (hm : m ≤ 30) (C : d < 20 → AltRC c (d + 1) alt) (hd : d ≤ 20) (h : Qz c w s) (hi : s.i ≤ c.G.length) (he : s.err = 0) (f : Nat) : Calls Tryz.prog 85 #[.pointer (some ⟨c.P, 0, none⟩), .int .i64 d, .int .i64 (place c.G f)] w (QnPost c w (rGroup c.G alt d s f)) := by
  have hln := h.len
  have hPw := h.lt
  have hHw := h.hH
  have hgr := h.gr
  have P := Lib.hid h
  have H0 := Lib.hid he
  have AA := Lib.hid A
  have CC := Lib.hid C
  have hHP := h.hP
  clear h he A C
  suffices key : ∀ r pf, rGroup c.G alt d s f = r → place c.G f = pf → Calls Tryz.prog 85 #[.pointer (some ⟨c.P, 0, none⟩), .int .i64 d, .int .i64 pf] w (QnPost c w r) from key _ _ rfl rfl
  intro r pf hr hpf
  have FC : Hid (∀ (er : Int) (w' : World), Qz c w' s → Calls Tryz.prog 20 #[.pointer (some ⟨c.P, 0, none⟩), .int .i64 er, .int .i64 pf] w' fun e w2 => e = .returned (.tuple #[]) ∧ Qz c w2 (s.wrong c.G f er) ∧ Kp c.P w' w2) := Lib.hid fun er w' p => by rw [← hpf]; exact failRC p f er
  have LC : Hid (∀ (u : Ps) (w' : World), Qz c w' u → u.i < 900 → Calls Tryz.prog 100 #[.pointer (some ⟨c.P, 0, none⟩), .int .i64 pf] w' (QePost c w' (rClosed c.G u f))) := Lib.hid fun u w' p hu => by rw [← hpf]; exact closedRC p hu f
  have I63 := Lib.hid (isRC P.out 63 (by decide) (by decide))
  clear hpf
  cases h63 : isR c.G s 63
  · rw [h63] at I63
    by_cases hdd : 20 ≤ d
    · rw [rGroup_deep (by rw [h63]; simp) hdd] at hr
      have HR := Lib.hid hr
      have i1 : (20 : Int) ≤ (d : Int) := by omega
      clear hr h63
      go_enter Tryz.func85, Tryz.ntmps85
      go_wp2_with fail
      refine I63.out.mono ?_
      rintro e w1 ⟨rfl, n1, rfl⟩
      have P_ := Lib.hid (P.out.drewN n1)
      have K_ := Lib.hid (Kp.below (P := c.P) (drewN_below (Below.refl w.heap.size w) n1))
      clear P I63
      generalize w.drewN n1 = w1 at P_ K_ ⊢
      have P := P_
      have K := K_
      clear P_ K_
      go_wp2_with fail
      go_quiet (fail)
      have P_ := Lib.hid (P.out.drewN nq)
      have K_ := Lib.hid (K.out.trans (Kp.below (drewN_below (Below.refl w1.heap.size w1) nq)))
      clear P K 
      generalize w1.drewN nq = w2 at P_ K_ ⊢
      have P := P_
      have K := K_
      clear P_ K_
      go_wp2_with fail
      refine (FC.out 10 _ P.out).mono ?_
      rintro e w8 ⟨rfl, P8, K8⟩
      go_wp2_with fail
      go_ret
      rw [← HR.out]
      exact qnPost_nil P8 (K.out.trans K8)
    · have hdd' : d < 20 := by omega
      have i1 : ¬ (20 : Int) ≤ (d : Int) := by omega
      by_cases h4 : 4 ≤ s.groups
      · rw [rGroup_many h63 hdd h4] at hr
        have HR := Lib.hid hr
        have i4 : (4 : Int) ≤ (s.groups : Int) := by omega
        clear hr h63
        go_enter Tryz.func85, Tryz.ntmps85
        go_wp2_with fail
        refine I63.out.mono ?_
        rintro e w1 ⟨rfl, n1, rfl⟩
        have P_ := Lib.hid (P.out.drewN n1)
        have K_ := Lib.hid (Kp.below (P := c.P) (drewN_below (Below.refl w.heap.size w) n1))
        clear P I63
        generalize w.drewN n1 = w1 at P_ K_ ⊢
        have P := P_
        have K := K_
        clear P_ K_
        go_wp2_with fail
        go_quiet (fail)
        have P_ := Lib.hid (P.out.drewN nq)
        have K_ := Lib.hid (K.out.trans (Kp.below (drewN_below (Below.refl w1.heap.size w1) nq)))
        clear P K 
        generalize w1.drewN nq = w2 at P_ K_ ⊢
        have P := P_
        have K := K_
        clear P_ K_
        have c3 := P.out.c3
        go_wp2_with fail
        refine (FC.out 13 _ P.out).mono ?_
        rintro e w8 ⟨rfl, P8, K8⟩
        go_wp2_with fail
        go_ret
        rw [← HR.out]
        exact qnPost_nil P8 (K.out.trans K8)
      · rw [rGroup_cap h63 hdd h4] at hr
        have HR := Lib.hid hr
        have i4 : ¬ (4 : Int) ≤ (s.groups : Int) := by omega
        clear hr h63
        go_enter Tryz.func85, Tryz.ntmps85
        go_wp2_with fail
        refine I63.out.mono ?_
        rintro e w1 ⟨rfl, n1, rfl⟩
        have P_ := Lib.hid (P.out.drewN n1)
        have K_ := Lib.hid (Kp.below (P := c.P) (drewN_below (Below.refl w.heap.size w) n1))
        clear P I63
        generalize w.drewN n1 = w1 at P_ K_ ⊢
        have P := P_
        have K := K_
        clear P_ K_
        go_wp2_with fail
        go_quiet (fail)
        have P_ := Lib.hid (P.out.drewN nq)
        have K_ := Lib.hid (K.out.trans (Kp.below (drewN_below (Below.refl w1.heap.size w1) nq)))
        clear P K 
        generalize w1.drewN nq = w2 at P_ K_ ⊢
        have P := P_
        have K := K_
        clear P_ K_
        have c3 := P.out.c3
        have f3 := P.out.fz 3
        have p_ := P.out.set_groups (j := s.groups + 1) (by omega)
        rw [Int.natCast_add] at p_
        have P_ := Lib.hid p_
        have K_ := Lib.hid (K.out.trans (Kp.set c.P 3 w2 (.int .i64 ((s.groups : Int) + 1))))
        clear p_
        go_upto_region 17 with fail
        clear P K c3 f3
        change Hid (Qz c (w2.setCell ⟨c.P, 3, none⟩ (.int .i64 ((s.groups : Int) + 1))) { s with groups := s.groups + 1 }) at P_
        generalize w2.setCell ⟨c.P, 3, none⟩ (.int .i64 ((s.groups : Int) + 1)) = w3 at P_ K_ ⊢
        have P := P_
        have K := K_
        clear P_ K_
        have c3 := P.out.c3
        simp only [Int.natCast_add] at c3
        have b4 := (Below.refl w3.heap.size w3).alloc (Nat.le_refl _) (.cells #[.int .i64 6, .slice none 0 0, .int .i64 0, .int .i64 0, .bool false, .int .i64 ((s.groups : Int) + 1), .int .i64 1] 35)
        have nb4 := heap_alloc_new w3 (.cells #[.int .i64 6, .slice none 0 0, .int .i64 0, .int .i64 0, .bool false, .int .i64 ((s.groups : Int) + 1), .int .i64 1] 35)
        have P_ := Lib.hid (P.out.keep b4)
        have K_ := Lib.hid (K.out.trans (Kp.below b4))
        have NB := Lib.hid nb4
        have hNb : w.heap.size ≤ w3.heap.size := K.out.size
        have hNP : w3.heap.size ≠ c.P := by have := P.out.lt; omega
        go_upto_region 18 with fail
        clear c3 P K b4 nb4
        generalize hw4 : w3.alloc (.cells #[.int .i64 6, .slice none 0 0, .int .i64 0, .int .i64 0, .bool false, .int .i64 ((s.groups : Int) + 1), .int .i64 1] 35) = w3' at P_ K_ NB ⊢
        have hNl : w3.heap.size < w3'.heap.size := heap_lt NB.out
        clear hw4
        generalize w3.heap.size = Nb at NB hNb hNP hNl ⊢
        have P := P_
        have K := K_
        clear P_ K_
        have AD := Lib.hid (AA.out { s with groups := s.groups + 1 } (by simp only; omega) (by simp only; omega))
        go_wp2_with fail
        refine (CC.out hdd' { s with groups := s.groups + 1 } _ P.out (by simp only; omega) H0.out).mono ?_
        rintro e w4 ⟨xv, rfl, p4, k4, nd4⟩
        generalize alt { s with groups := s.groups + 1 } = a at p4 nd4 AD HR
        obtain ⟨t, l⟩ := a
        simp only at p4 nd4 AD HR
        have htop := AD.out.1.top
        have hlen := AD.out.2
        have ND := Lib.hid (nd4.mono K.out.size)
        have nb4 := (k4.block Nb hNl (by simpa using hNP)).trans NB.out
        have hNl4 : Nb < w4.heap.size := heap_lt nb4
        have NB4 := Lib.hid nb4
        have K4 := Lib.hid (K.out.trans k4)
        have P4 := Lib.hid p4
        clear p4 k4 nd4 P K NB nb4
        go_wp2_with fail
        refine (LC.out t _ P4.out (by omega)).mono ?_
        rintro e w10 ⟨rfl, p5, k5⟩
        have P10 := Lib.hid p5
        have K10 := Lib.hid (K4.out.trans k5)
        have ND10 := Lib.hid (ND.out.kp k5 hPw)
        have NB10 := Lib.hid ((k5.block Nb hNl4 (by simpa using hNP)).trans NB4.out)
        clear p5 k5 P4 K4 ND NB4
        have nb := NB10.out
        have d0 := cell_of_obj (o := 0) nb rfl
        have d1 := cell_of_obj (o := 1) nb rfl
        have d2 := cell_of_obj (o := 2) nb rfl
        have d3 := cell_of_obj (o := 3) nb rfl
        have d4 := cell_of_obj (o := 4) nb rfl
        have d5 := cell_of_obj (o := 5) nb rfl
        have d6 := cell_of_obj (o := 6) nb rfl
        simp only [List.getElem_toArray, List.getElem_cons_zero, List.getElem_cons_succ] at d0 d1 d2 d3 d4 d5 d6
        obtain ⟨ls, hls, hnv⟩ := ND10.out
        obtain ⟨p, hp1, hp2, hp3⟩ := hnv.pv
        subst hp2
        have o1 : OwnN w10.heap.size (w10.alloc (.cells #[.int .i64 6, .slice none 0 0, .int .i64 0, .int .i64 0, .bool false, .int .i64 ((s.groups : Int) + 1), .int .i64 1] 35)) (.slice (some ⟨w10.heap.size, 0, none⟩) 1 1) [⟨{ nd 6 with cap := (s.groups + 1 : Nat), kids := 1 }, none, 0, 0⟩] := own_lit w10 _ _ 1 rfl eN_len rfl (Nat.le_refl _) (by omega)
        have rd1 := (NdsV.rd (hnv.kept ((Below.refl w10.heap.size w10).alloc (Nat.le_refl _) (.cells #[.int .i64 6, .slice none 0 0, .int .i64 0, .int .i64 0, .bool false, .int .i64 ((s.groups : Int) + 1), .int .i64 1] 35)))).2
        have O1 := Lib.hid o1
        have RD1 := Lib.hid rd1
        have HNV := Lib.hid hnv
        have HLS := Lib.hid hls
        have HP3 := Lib.hid hp3
        have hs10 : w10.heap.size ≤ (w10.alloc (.cells #[.int .i64 6, .slice none 0 0, .int .i64 0, .int .i64 0, .bool false, .int .i64 ((s.groups : Int) + 1), .int .i64 1] 35)).heap.size := by simp
        have hmx : [(⟨{ nd 6 with cap := (s.groups + 1 : Nat), kids := 1 }, none, 0, 0⟩ : NdV)].length + ls.length ≤ 1000000000 := by
          have e : ls.length = l.length := by rw [← hls]; simp
          simp
          omega
        clear o1 rd1 hnv hls nb hp1 hp3
        go_wp2_with (at_builtin; go_must (refine wpList_app elem_nd rfl rfl rfl rfl O1.out RD1.out HP3.out eN_len eN_one hmx (by omega) hs10 ?_; intro v2 w2x o2 g2))
        go_ret
        rw [← HR.out]
        have b2 : Below w10.heap.size w10 w2x := Below.grow ((Below.refl w10.heap.size w10).alloc (Nat.le_refl _) _) O1.out g2 (Nat.le_refl _) hs10
        have nn := nds_cons (y := ⟨{ nd 6 with cap := (s.groups + 1 : Nat), kids := 1 }, none, 0, 0⟩) K10.out.size (Own.nil _ _ _ _ _) HNV.out.2 o2 b2
        rw [HLS.out] at nn
        exact ⟨_, rfl, P10.out.keep b2, K10.out.trans (Kp.below b2), nn⟩
  · rw [h63] at I63
    have hlt := isR_lt h63
    by_cases hl2 : c.G.length ≤ s.i + 1
    · have h58 : isR c.G s.next 58 = false := isR_out (by simp; omega)
      rw [rGroup_no h63 h58] at hr
      have HR := Lib.hid hr
      have i1 : (c.G.length : Int) ≤ (s.i : Int) + 1 := by omega
      clear hr h63 h58
      go_enter Tryz.func85, Tryz.ntmps85
      go_wp2_with fail
      refine I63.out.mono ?_
      rintro e w1 ⟨rfl, n1, rfl⟩
      have P_ := Lib.hid (P.out.drewN n1)
      have K_ := Lib.hid (Kp.below (P := c.P) (drewN_below (Below.refl w.heap.size w) n1))
      clear P I63
      generalize w.drewN n1 = w1 at P_ K_ ⊢
      have P := P_
      have K := K_
      clear P_ K_
      have c0 := P.out.c0
      have c2 := P.out.c2
      go_wp2_with fail
      go_quiet (fail)
      have P_ := Lib.hid (P.out.drewN nq)
      have K_ := Lib.hid (K.out.trans (Kp.below (drewN_below (Below.refl w1.heap.size w1) nq)))
      clear P K c0 c2
      generalize w1.drewN nq = w2 at P_ K_ ⊢
      have P := P_
      have K := K_
      clear P_ K_
      go_wp2_with fail
      refine (FC.out 4 _ P.out).mono ?_
      rintro e w8 ⟨rfl, P8, K8⟩
      go_wp2_with fail
      go_ret
      rw [← HR.out]
      exact qnPost_nil P8 (K.out.trans K8)
    · have i1 : (s.i : Int) + 1 < (c.G.length : Int) := by omega
      have R58 : isR c.G s.next 58 = (rnR c.G (s.i + 1) == 58) := isR_rn (s := s.next) (by simp; omega) (by decide) (by decide)
      by_cases hx : rnR c.G (s.i + 1) = 58
      · have h58 : isR c.G s.next 58 = true := by rw [R58, hx]; rfl
        by_cases hdd : 20 ≤ d
        · rw [rGroup_deep (by rw [h58]; simp) hdd] at hr
          have HR := Lib.hid hr
          have i2 : (20 : Int) ≤ (d : Int) := by omega
          have HX := Lib.hid hx
          clear hr h63 h58 R58 hx
          go_enter Tryz.func85, Tryz.ntmps85
          go_wp2_with fail
          refine I63.out.mono ?_
          rintro e w1 ⟨rfl, n1, rfl⟩
          have P_ := Lib.hid (P.out.drewN n1)
          have K_ := Lib.hid (Kp.below (P := c.P) (drewN_below (Below.refl w.heap.size w) n1))
          clear P I63
          generalize w.drewN n1 = w1 at P_ K_ ⊢
          have P := P_
          have K := K_
          clear P_ K_
          have c0 := P.out.c0
          have c2 := P.out.c2
          obtain ⟨b, off, hga, hbP, hbl, r0⟩ := P.out.rune (i := s.i + 1) (by omega)
          rw [hga] at c0
          clear hga
          have s1 : IntKind.i64.wrap ((s.i : Int) + 1) = (s.i : Int) + 1 := IntWalk.i64_in _ (by omega)
          have s3 : ((s.i : Int) + 1).toNat = s.i + 1 := by omega
          have s4 : (0 : Int) ≤ (s.i : Int) + 1 := by omega
          rw [HX.out] at r0
          go_wp2_with fail
          go_quiet (fail)
          have P_ := Lib.hid (P.out.drewN nq)
          have K_ := Lib.hid (K.out.trans (Kp.below (drewN_below (Below.refl w1.heap.size w1) nq)))
          clear P K c0 c2 r0 s1 s3 s4
          generalize w1.drewN nq = w2 at P_ K_ ⊢
          have P := P_
          have K := K_
          clear P_ K_
          go_wp2_with fail
          refine (FC.out 10 _ P.out).mono ?_
          rintro e w8 ⟨rfl, P8, K8⟩
          go_wp2_with fail
          go_ret
          rw [← HR.out]
          exact qnPost_nil P8 (K.out.trans K8)
        · have hdd' : d < 20 := by omega
          have i2 : ¬ (20 : Int) ≤ (d : Int) := by omega
          rw [rGroup_quiet h63 h58 hdd] at hr
          have HR := Lib.hid hr
          have HX := Lib.hid hx
          clear hr h63 h58 R58 hx
          go_enter Tryz.func85, Tryz.ntmps85
          go_wp2_with fail
          refine I63.out.mono ?_
          rintro e w1 ⟨rfl, n1, rfl⟩
          have P_ := Lib.hid (P.out.drewN n1)
          have K_ := Lib.hid (Kp.below (P := c.P) (drewN_below (Below.refl w.heap.size w) n1))
          clear P I63
          generalize w.drewN n1 = w1 at P_ K_ ⊢
          have P := P_
          have K := K_
          clear P_ K_
          have c0 := P.out.c0
          have c2 := P.out.c2
          obtain ⟨b, off, hga, hbP, hbl, r0⟩ := P.out.rune (i := s.i + 1) (by omega)
          rw [hga] at c0
          clear hga
          have s1 : IntKind.i64.wrap ((s.i : Int) + 1) = (s.i : Int) + 1 := IntWalk.i64_in _ (by omega)
          have s3 : ((s.i : Int) + 1).toNat = s.i + 1 := by omega
          have s4 : (0 : Int) ≤ (s.i : Int) + 1 := by omega
          rw [HX.out] at r0
          go_wp2_with fail
          go_quiet (fail)
          have P_ := Lib.hid (P.out.drewN nq)
          have K_ := Lib.hid (K.out.trans (Kp.below (drewN_below (Below.refl w1.heap.size w1) nq)))
          clear P K c0 c2 r0 s1 s3 s4
          generalize w1.drewN nq = w2 at P_ K_ ⊢
          have P := P_
          have K := K_
          clear P_ K_
          have c2 := P.out.c2
          have f2 := P.out.fz 2
          have p_ := P.out.set_i (j := s.i + 2) (by omega)
          rw [Int.natCast_add] at p_
          have P_ := Lib.hid p_
          have K_ := Lib.hid (K.out.trans (Kp.set c.P 2 w2 (.int .i64 ((s.i : Int) + 2))))
          clear p_
          go_upto_region 10 with fail
          clear P K c2 f2
          change Hid (Qz c (w2.setCell ⟨c.P, 2, none⟩ (.int .i64 ((s.i : Int) + 2))) s.next.next) at P_
          generalize w2.setCell ⟨c.P, 2, none⟩ (.int .i64 ((s.i : Int) + 2)) = w3 at P_ K_ ⊢
          have P := P_
          have K := K_
          clear P_ K_
          have AD := Lib.hid (AA.out s.next.next (by simp only [next_i]; omega) hgr)
          go_wp2_with fail
          refine (CC.out hdd' s.next.next _ P.out (by simp only [next_i]; omega) H0.out).mono ?_
          rintro e w4 ⟨xv, rfl, p4, k4, nd4⟩
          generalize alt s.next.next = a at p4 nd4 AD HR
          obtain ⟨t, l⟩ := a
          simp only at p4 nd4 AD HR
          have htop := AD.out.1.top
          have hlen := AD.out.2
          have ND := Lib.hid (nd4.mono K.out.size)
          have K4 := Lib.hid (K.out.trans k4)
          have P4 := Lib.hid p4
          clear p4 k4 nd4 P K
          go_wp2_with fail
          refine (LC.out t _ P4.out (by omega)).mono ?_
          rintro e w5 ⟨rfl, p5, k5⟩
          go_wp2_with fail
          go_ret
          rw [← HR.out]
          exact ⟨_, rfl, p5, K4.out.trans k5, ND.out.kp k5 hPw⟩
      · have h58 : isR c.G s.next 58 = false := by rw [R58]; simpa using hx
        rw [rGroup_no h63 h58] at hr
        have HR := Lib.hid hr
        have HX := Lib.hid hx
        clear hr h63 h58 R58 hx
        go_enter Tryz.func85, Tryz.ntmps85
        go_wp2_with fail
        refine I63.out.mono ?_
        rintro e w1 ⟨rfl, n1, rfl⟩
        have P_ := Lib.hid (P.out.drewN n1)
        have K_ := Lib.hid (Kp.below (P := c.P) (drewN_below (Below.refl w.heap.size w) n1))
        clear P I63
        generalize w.drewN n1 = w1 at P_ K_ ⊢
        have P := P_
        have K := K_
        clear P_ K_
        have c0 := P.out.c0
        have c2 := P.out.c2
        obtain ⟨b, off, hga, hbP, hbl, r0⟩ := P.out.rune (i := s.i + 1) (by omega)
        rw [hga] at c0
        clear hga
        have s1 : IntKind.i64.wrap ((s.i : Int) + 1) = (s.i : Int) + 1 := IntWalk.i64_in _ (by omega)
        have s3 : ((s.i : Int) + 1).toNat = s.i + 1 := by omega
        have s4 : (0 : Int) ≤ (s.i : Int) + 1 := by omega
        have hx' : (rnR c.G (s.i + 1) != 58) = true := by simpa using HX.out
        generalize rnR c.G (s.i + 1) = x at r0 hx'
        go_wp2_with fail
        go_quiet (fail)
        have P_ := Lib.hid (P.out.drewN nq)
        have K_ := Lib.hid (K.out.trans (Kp.below (drewN_below (Below.refl w1.heap.size w1) nq)))
        clear P K c0 c2 r0 s1 s3 s4
        generalize w1.drewN nq = w2 at P_ K_ ⊢
        have P := P_
        have K := K_
        clear P_ K_
        go_wp2_with fail
        refine (FC.out 4 _ P.out).mono ?_
        rintro e w8 ⟨rfl, P8, K8⟩
        go_wp2_with fail
        go_ret
        rw [← HR.out]
        exact qnPost_nil P8 (K.out.trans K8)
def rAtom1 (G : List Gt) (alt : Ps → Ps × List Nd) (d : Nat) (s : Ps) (f : Nat) (r : Int) : Ps × List Nd :=
  if r = 40 then rGroup G alt d s f
  else if r = 91 then ((rCls G s f).1, [ndC (rCls G s f).2])
  else if r = 46 then (s, [ndC (notF [(10, 10)])])
  else if r = 94 then (s, [nd 7])
  else if r = 36 then (s, [nd 8])
  else if r = 92 then ((rEsc G s f).1, [ndC (rEsc G s f).2])
  else if r = 42 ∨ r = 43 ∨ r = 63 ∨ r = 123 ∨ r = 125 ∨ r = 93 ∨ r = 41 ∨ r = 124 ∨ r = -1 then (s.wrong G f 4, [])
  else (s, [ndC [(r, r)]])
theorem rAtom_rn {G : List Gt} {alt : Ps → Ps × List Nd} {d : Nat} (hG : Pos G) : rAtom G alt d s = rAtom1 G alt d s.next s.i (rnR G s.i) := by
  unfold rAtom
  cases hb : badB G s.i
  · rw [rn_good hb]
    have := hG s.i
    generalize runeAt G s.i = x at this
    have e : (x = 42 ∨ x = 43 ∨ x = 63 ∨ x = 123 ∨ x = 125 ∨ x = 93 ∨ x = 41 ∨ x = 124 ∨ x = -1) ↔ (x = 42 ∨ x = 43 ∨ x = 63 ∨ x = 123 ∨ x = 125 ∨ x = 93 ∨ x = 41 ∨ x = 124) := by omega
    simp only [rAtom1, e]
    rfl
  · rw [rn_bad hb]
    rfl
set_option maxHeartbeats 8000000 in
set_option maxRecDepth 100000 in
theorem atomRC {m d : Nat} {alt : Ps → Ps × List Nd} (hG : Pos c.G) (A : AltRA c.G m alt) (hm : m ≤ 30) (C : d < 20 → AltRC c (d + 1) alt) (hd : d ≤ 20) (h : Qz c w s) (hi : s.i < c.G.length) (he : s.err = 0) : Calls Tryz.prog 71 #[.pointer (some ⟨c.P, 0, none⟩), .int .i64 d] w (QnPost c w (rAtom c.G alt d s)) := by
  have hln := h.len
  have P := Lib.hid h
  have hni : s.next.i ≤ c.G.length := by simp; omega
  have GC := Lib.hid (fun (w' : World) (p : Qz c w' s.next) => groupRC A hm C hd p hni he s.i)
  have KC := Lib.hid (fun (w' : World) (p : Qz c w' s.next) => classRC hG p hni s.i he)
  have EC := Lib.hid (fun (w' : World) (p : Qz c w' s.next) => escapeRC hG p hni s.i)
  have FC := Lib.hid (fun (w' : World) (p : Qz c w' s.next) => failRC p s.i 4)
  have HRE := Lib.hid (hereRC h (Nat.le_of_lt hi))
  clear h
  suffices key : ∀ r, rAtom c.G alt d s = r → Calls Tryz.prog 71 #[.pointer (some ⟨c.P, 0, none⟩), .int .i64 d] w (QnPost c w r) from key _ rfl
  intro r hr
  rw [rAtom_rn hG] at hr
  have HR := Lib.hid hr
  have i1 : (s.i : Int) < (c.G.length : Int) := by omega
  generalize place c.G s.i = pl at GC KC EC FC HRE
  clear hr A C hG
  go_enter Tryz.func71, Tryz.ntmps71
  go_wp2_with fail
  refine HRE.out.mono ?_
  rintro e w1 ⟨rfl, n1, rfl⟩
  have P_ := Lib.hid (P.out.drewN n1)
  have K_ := Lib.hid (Kp.below (P := c.P) (drewN_below (Below.refl w.heap.size w) n1))
  clear P HRE
  generalize w.drewN n1 = w1 at P_ K_ ⊢
  have P := P_
  have K := K_
  clear P_ K_
  have c0 := P.out.c0
  have c2 := P.out.c2
  obtain ⟨b, off, hga, hbP, hbl, r0⟩ := P.out.rune hi
  rw [hga] at c0
  clear hga
  generalize rnR c.G s.i = x at r0 HR
  go_wp2_with fail
  go_quiet (fail)
  have P_ := Lib.hid (P.out.drewN nq)
  have K_ := Lib.hid (K.out.trans (Kp.below (drewN_below (Below.refl w1.heap.size w1) nq)))
  clear P K c0 c2 r0
  generalize w1.drewN nq = w2 at P_ K_ ⊢
  have P := P_
  have K := K_
  clear P_ K_
  have c2 := P.out.c2
  have f2 := P.out.fz 2
  have P_ := Lib.hid (P.out.step (by omega))
  have K_ := Lib.hid (K.out.trans (Kp.set c.P 2 w2 (.int .i64 ((s.i : Int) + 1))))
  go_upto_region 5 with fail
  clear c2 f2 P K
  generalize w2.setCell ⟨c.P, 2, none⟩ (.int .i64 ((s.i : Int) + 1)) = w3 at P_ K_ ⊢
  have P := P_
  have K := K_
  clear P_ K_
  unfold rAtom1 at HR
  by_cases h0 : x = 40
  · subst h0
    rw [if_pos rfl] at HR
    go_wp2_with fail
    refine (GC.out _ P.out).mono ?_
    rintro e w5 ⟨v5, rfl, h5⟩
    go_wp2_with fail
    go_ret
    rw [← HR.out]
    exact qnPost_pre K.out ⟨v5, rfl, h5⟩
  · have n0 : (x == 40) = false := by simpa using h0
    rw [if_neg h0] at HR
    by_cases h1 : x = 91
    · subst h1
      rw [if_pos rfl] at HR
      go_wp2_with fail
      refine (KC.out _ P.out).mono ?_
      rintro e w5 ⟨v5, rfl, p5, k5, o5⟩
      have P_ := Lib.hid p5
      have O := Lib.hid (o5.mono K.out.size)
      have K_ := Lib.hid (K.out.trans k5)
      clear P K p5 k5 o5
      have P := P_
      have K := K_
      go_wp2_with fail
      refine (oneRC (B := w.heap.size) O.out K.out.size).mono ?_
      rintro e w6 ⟨v6, rfl, nd6, b6⟩
      go_wp2_with fail
      go_ret
      rw [← HR.out]
      exact ⟨_, rfl, P.out.keep b6, K.out.trans (Kp.below b6), nd6⟩
    · have n1 : (x == 91) = false := by simpa using h1
      rw [if_neg h1] at HR
      by_cases h2 : x = 46
      · subst h2
        rw [if_pos rfl] at HR
        go_wp2_with fail
        refine (refNotC (some ⟨w3.heap.size, 0, none⟩) [(10, 10)] (notF [(10, 10)]) 1 _ (Rd.built [(10, 10)] 1 rfl rfl (by omega)) (by simp) (notF_nots _)).mono ?_
        rintro e w5 ⟨v5, rfl, o5, b5⟩
        have P_ := Lib.hid (P.out.keep (below_alloc b5))
        have O := Lib.hid ((own_alloc o5).mono K.out.size)
        have K_ := Lib.hid (K.out.trans (Kp.below (below_alloc b5)))
        clear P K o5 b5
        have P := P_
        have K := K_
        go_wp2_with fail
        refine (oneRC (B := w.heap.size) O.out K.out.size).mono ?_
        rintro e w6 ⟨v6, rfl, nd6, b6⟩
        go_wp2_with fail
        go_ret
        rw [← HR.out]
        exact ⟨_, rfl, P.out.keep b6, K.out.trans (Kp.below b6), nd6⟩
      · have n2 : (x == 46) = false := by simpa using h2
        rw [if_neg h2] at HR
        by_cases h3 : x = 94
        · subst h3
          rw [if_pos rfl] at HR
          have nd4 := nds_one K.out.size 7
          have b4 := (Below.refl w3.heap.size w3).alloc (Nat.le_refl _) (.cells #[.int .i64 7, .slice none 0 0, .int .i64 0, .int .i64 0, .bool false, .int .i64 0, .int .i64 0] 35)
          have ND := Lib.hid nd4
          have B4 := Lib.hid b4
          clear nd4 b4
          go_wp2_with fail
          go_ret
          rw [← HR.out]
          exact ⟨_, rfl, P.out.keep B4.out, K.out.trans (Kp.below B4.out), ND.out⟩
        · have n3 : (x == 94) = false := by simpa using h3
          rw [if_neg h3] at HR
          by_cases h4 : x = 36
          · subst h4
            rw [if_pos rfl] at HR
            have nd4 := nds_one K.out.size 8
            have b4 := (Below.refl w3.heap.size w3).alloc (Nat.le_refl _) (.cells #[.int .i64 8, .slice none 0 0, .int .i64 0, .int .i64 0, .bool false, .int .i64 0, .int .i64 0] 35)
            have ND := Lib.hid nd4
            have B4 := Lib.hid b4
            clear nd4 b4
            go_wp2_with fail
            go_ret
            rw [← HR.out]
            exact ⟨_, rfl, P.out.keep B4.out, K.out.trans (Kp.below B4.out), ND.out⟩
          · have n4 : (x == 36) = false := by simpa using h4
            rw [if_neg h4] at HR
            by_cases h5 : x = 92
            · subst h5
              rw [if_pos rfl] at HR
              go_wp2_with fail
              refine (EC.out _ P.out).mono ?_
              rintro e w5 ⟨v5, rfl, p5, k5, o5⟩
              have P_ := Lib.hid p5
              have O := Lib.hid (o5.mono K.out.size)
              have K_ := Lib.hid (K.out.trans k5)
              clear P K p5 k5 o5
              have P := P_
              have K := K_
              go_wp2_with fail
              refine (oneRC (B := w.heap.size) O.out K.out.size).mono ?_
              rintro e w6 ⟨v6, rfl, nd6, b6⟩
              go_wp2_with fail
              go_ret
              rw [← HR.out]
              exact ⟨_, rfl, P.out.keep b6, K.out.trans (Kp.below b6), nd6⟩
            · have n5 : (x == 92) = false := by simpa using h5
              rw [if_neg h5] at HR
              by_cases h6 : x = 42
              · subst h6
                rw [if_pos (by decide)] at HR
                go_wp2_with fail
                refine (FC.out _ P.out).mono ?_
                rintro e w5 ⟨rfl, P5, K5⟩
                go_wp2_with fail
                go_ret
                rw [← HR.out]
                exact qnPost_nil P5 (K.out.trans K5)
              · have n6 : (x == 42) = false := by simpa using h6
                by_cases h7 : x = 43
                · subst h7
                  rw [if_pos (by decide)] at HR
                  go_wp2_with fail
                  refine (FC.out _ P.out).mono ?_
                  rintro e w5 ⟨rfl, P5, K5⟩
                  go_wp2_with fail
                  go_ret
                  rw [← HR.out]
                  exact qnPost_nil P5 (K.out.trans K5)
                · have n7 : (x == 43) = false := by simpa using h7
                  by_cases h8 : x = 63
                  · subst h8
                    rw [if_pos (by decide)] at HR
                    go_wp2_with fail
                    refine (FC.out _ P.out).mono ?_
                    rintro e w5 ⟨rfl, P5, K5⟩
                    go_wp2_with fail
                    go_ret
                    rw [← HR.out]
                    exact qnPost_nil P5 (K.out.trans K5)
                  · have n8 : (x == 63) = false := by simpa using h8
                    by_cases h9 : x = 123
                    · subst h9
                      rw [if_pos (by decide)] at HR
                      go_wp2_with fail
                      refine (FC.out _ P.out).mono ?_
                      rintro e w5 ⟨rfl, P5, K5⟩
                      go_wp2_with fail
                      go_ret
                      rw [← HR.out]
                      exact qnPost_nil P5 (K.out.trans K5)
                    · have n9 : (x == 123) = false := by simpa using h9
                      by_cases h10 : x = 125
                      · subst h10
                        rw [if_pos (by decide)] at HR
                        go_wp2_with fail
                        refine (FC.out _ P.out).mono ?_
                        rintro e w5 ⟨rfl, P5, K5⟩
                        go_wp2_with fail
                        go_ret
                        rw [← HR.out]
                        exact qnPost_nil P5 (K.out.trans K5)
                      · have n10 : (x == 125) = false := by simpa using h10
                        by_cases h11 : x = 93
                        · subst h11
                          rw [if_pos (by decide)] at HR
                          go_wp2_with fail
                          refine (FC.out _ P.out).mono ?_
                          rintro e w5 ⟨rfl, P5, K5⟩
                          go_wp2_with fail
                          go_ret
                          rw [← HR.out]
                          exact qnPost_nil P5 (K.out.trans K5)
                        · have n11 : (x == 93) = false := by simpa using h11
                          by_cases h12 : x = 41
                          · subst h12
                            rw [if_pos (by decide)] at HR
                            go_wp2_with fail
                            refine (FC.out _ P.out).mono ?_
                            rintro e w5 ⟨rfl, P5, K5⟩
                            go_wp2_with fail
                            go_ret
                            rw [← HR.out]
                            exact qnPost_nil P5 (K.out.trans K5)
                          · have n12 : (x == 41) = false := by simpa using h12
                            by_cases h13 : x = 124
                            · subst h13
                              rw [if_pos (by decide)] at HR
                              go_wp2_with fail
                              refine (FC.out _ P.out).mono ?_
                              rintro e w5 ⟨rfl, P5, K5⟩
                              go_wp2_with fail
                              go_ret
                              rw [← HR.out]
                              exact qnPost_nil P5 (K.out.trans K5)
                            · have n13 : (x == 124) = false := by simpa using h13
                              by_cases h14 : x = -1
                              · subst h14
                                rw [if_pos (by decide)] at HR
                                go_wp2_with fail
                                refine (FC.out _ P.out).mono ?_
                                rintro e w5 ⟨rfl, P5, K5⟩
                                go_wp2_with fail
                                go_ret
                                rw [← HR.out]
                                exact qnPost_nil P5 (K.out.trans K5)
                              · have n14 : (x == -1) = false := by simpa using h14
                                rw [if_neg (by simp [h6, h7, h8, h9, h10, h11, h12, h13, h14])] at HR
                                have o4 : OwnR w.heap.size (w3.alloc (.cells #[.int .i32 x, .int .i32 x] 58)) (.slice (some ⟨w3.heap.size, 0, none⟩) 1 1) [(x, x)] := own_lit w3 _ [(x, x)] 1 rfl er_len rfl K.out.size (by omega)
                                have b4 := (Below.refl w3.heap.size w3).alloc (Nat.le_refl _) (.cells #[.int .i32 x, .int .i32 x] 58)
                                have P_ := Lib.hid (P.out.keep b4)
                                have K_ := Lib.hid (K.out.trans (Kp.below b4))
                                have O := Lib.hid o4
                                clear P K b4 o4
                                have P := P_
                                have K := K_
                                go_wp2_with fail
                                refine (oneRC (B := w.heap.size) O.out K.out.size).mono ?_
                                rintro e w6 ⟨v6, rfl, nd6, b6⟩
                                go_wp2_with fail
                                go_ret
                                rw [← HR.out]
                                exact ⟨_, rfl, P.out.keep b6, K.out.trans (Kp.below b6), nd6⟩
end Go.Proofs.YtooockbfagkknaaGreatDoor.syn
/- spoorref10: repeat. -/
namespace Go.Proofs.YtooockbfagkknaaGreatDoor.syn
open Go.RowKit Go.Proofs.YtooockbfagkknaaGreatDoor.sl Go.Proofs.YtooockbfagkknaaGreatDoor.cls
variable {c : Cx} {w : World} {s : Ps}
def rRep1 (G : List Gt) (t : Ps) (l : List Nd) (x : Int) : Ps × List Nd :=
  if x = 42 then rRep2 G t.next 0 (-1) l
  else if x = 43 then rRep2 G t.next 1 (-1) l
  else if x = 63 then rRep2 G t.next 0 1 l
  else if x = 123 then rRep2 G (rCounts G t).1 (rCounts G t).2.1 (rCounts G t).2.2 l
  else (t, l)
theorem rRep_stop {G : List Gt} {alt : Ps → Ps × List Nd} {d : Nat} (h : (rAtom G alt d s).1.err ≠ 0 ∨ G.length ≤ (rAtom G alt d s).1.i) : rRep G alt d s = rAtom G alt d s := by
  unfold rRep
  simp only
  rw [if_pos h]
theorem rRep_go {G : List Gt} {alt : Ps → Ps × List Nd} {d : Nat} (h : ¬ ((rAtom G alt d s).1.err ≠ 0 ∨ G.length ≤ (rAtom G alt d s).1.i)) : rRep G alt d s = rRep1 G (rAtom G alt d s).1 (rAtom G alt d s).2 (rnR G (rAtom G alt d s).1.i) := by
  unfold rRep
  simp only
  rw [if_neg h]
  generalize rAtom G alt d s = a at h
  have hl : a.1.i < G.length := by
    rcases Nat.lt_or_ge a.1.i G.length with h' | h'
    · exact h'
    · exact absurd (.inr h') h
  simp only [isR_rn hl (r := 42) (by decide) (by decide), isR_rn hl (r := 43) (by decide) (by decide), isR_rn hl (r := 63) (by decide) (by decide), isR_rn hl (r := 123) (by decide) (by decide), beq_iff_eq]
  rfl
set_option maxHeartbeats 8000000 in
set_option maxRecDepth 100000 in
theorem repeatRC {m d : Nat} {alt : Ps → Ps × List Nd} (hG : Pos c.G) (A : AltRA c.G m alt) (hm : m ≤ 30) (C : d < 20 → AltRC c (d + 1) alt) (hd : d ≤ 20) (h : Qz c w s) (hi : s.i < c.G.length) (he : s.err = 0) : Calls Tryz.prog 52 #[.pointer (some ⟨c.P, 0, none⟩), .int .i64 d] w (QnPost c w (rRep c.G alt d s)) := by
  have hln := h.len
  have hPw := h.lt
  have hgr := h.gr
  have AD := Lib.hid (rAtom_rad (deep := d) A hi hgr)
  have AT := Lib.hid (atomRC hG A hm C hd h hi he)
  have RE := Lib.hid (rRep_stop (G := c.G) (alt := alt) (s := s) (d := d))
  have RG := Lib.hid (rRep_go (G := c.G) (alt := alt) (s := s) (d := d))
  clear h he
  suffices key : ∀ r, rRep c.G alt d s = r → Calls Tryz.prog 52 #[.pointer (some ⟨c.P, 0, none⟩), .int .i64 d] w (QnPost c w r) from key _ rfl
  intro r hr
  rw [hr] at RE RG
  clear hr hG C
  go_enter Tryz.func52, Tryz.ntmps52
  go_wp2_with fail
  refine AT.out.mono ?_
  rintro e w1 ⟨xv, rfl, p2, k2, nd2⟩
  generalize rAtom c.G alt d s = a at p2 nd2 AD RE RG
  obtain ⟨t, l⟩ := a
  simp only at p2 nd2 AD RE RG
  have P := Lib.hid p2
  have K := Lib.hid k2
  have ND2 := Lib.hid nd2
  have HLEN : Hid (l.length ≤ 1000) := Lib.hid (by have h1 := AD.out.2.2; have h2 := AD.out.1.top; omega)
  have htl := p2.le
  have hH2 := p2.hH
  have htp := AD.out.1.top
  clear p2 k2 nd2 AT AD
  have c0 := P.out.c0
  have c2 := P.out.c2
  have c4 := P.out.c4
  by_cases het : t.err = 0
  · rw [het] at c4
    by_cases hil : c.G.length ≤ t.i
    · have e1 := RE.out (.inr hil)
      have HR := Lib.hid e1
      have i1 : (c.G.length : Int) ≤ (t.i : Int) := by omega
      clear e1 RE RG het
      go_wp2_with fail
      go_quiet (fail)
      have P_ := Lib.hid (P.out.drewN nq)
      have K_ := Lib.hid (K.out.trans (Kp.below (drewN_below (Below.refl w1.heap.size w1) nq)))
      have ND2_ := Lib.hid (ND2.out.kept (drewN_below (Below.refl _ _) nq))
      clear P K ND2 c0 c2 c4
      generalize w1.drewN nq = w2 at P_ K_ ND2_ ⊢
      have P := P_
      have K := K_
      have ND2 := ND2_
      clear P_ K_ ND2_
      go_wp2_with fail
      go_ret
      rw [HR.out]
      exact ⟨_, rfl, P.out, K.out, ND2.out⟩
    · have e1 := RG.out (fun h => h.elim (fun h => h het) hil)
      have HQ := Lib.hid e1
      have hlt : t.i < c.G.length := by omega
      have i1 : (t.i : Int) < (c.G.length : Int) := by omega
      clear e1 RE RG het hil
      go_wp2_with fail
      go_quiet (fail)
      have P_ := Lib.hid (P.out.drewN nq)
      have K_ := Lib.hid (K.out.trans (Kp.below (drewN_below (Below.refl w1.heap.size w1) nq)))
      have ND2_ := Lib.hid (ND2.out.kept (drewN_below (Below.refl _ _) nq))
      clear P K ND2 c0 c2 c4
      generalize w1.drewN nq = w2 at P_ K_ ND2_ ⊢
      have P := P_
      have K := K_
      have ND2 := ND2_
      clear P_ K_ ND2_
      have hH2 := P.out.hH
      go_upto_region 5 with fail
      have b3 := (Below.refl w2.heap.size w2).alloc (Nat.le_refl _) (.cells #[.int .i64 5, .slice none 0 0, .int .i64 0, .int .i64 0, .bool false, .int .i64 0, .int .i64 1] 35)
      have P3 := Lib.hid (P.out.keep b3)
      have KK := Lib.hid (Kp.below (P := c.P) b3)
      have NB := Lib.hid (heap_alloc_new w2 (.cells #[.int .i64 5, .slice none 0 0, .int .i64 0, .int .i64 0, .bool false, .int .i64 0, .int .i64 1] 35))
      have hNw : w.heap.size ≤ w2.heap.size := K.out.size
      have hNP : w2.heap.size ≠ c.P := by have := P.out.lt; omega
      have K2 := K
      clear b3 P K
      generalize w2.alloc (.cells #[.int .i64 5, .slice none 0 0, .int .i64 0, .int .i64 0, .bool false, .int .i64 0, .int .i64 1] 35) = w3 at P3 KK NB ⊢
      obtain ⟨Nb, hNe⟩ : ∃ Nb, w2.heap.size = Nb := ⟨_, rfl⟩
      have HNE := Lib.hid hNe
      rw [hNe] at NB hNw hNP hH2 ⊢
      clear hNe
      obtain ⟨b, off, hga, hbP, hbl, r0⟩ := P3.out.rune hlt
      have c0 := P3.out.c0
      have c2 := P3.out.c2
      rw [hga] at c0
      clear hga
      generalize rnR c.G t.i = x at r0 HQ
      go_wp2_with fail
      go_quiet (fail)
      go_upto_block 0 with fail
      have P3_ := Lib.hid (P3.out.drewN nq)
      have KK_ := Lib.hid (KK.out.trans (Kp.below (drewN_below (Below.refl w3.heap.size w3) nq)))
      have NB_ : Hid ((w3.drewN nq).heap[Nb]? = some (.cells #[.int .i64 5, .slice none 0 0, .int .i64 0, .int .i64 0, .bool false, .int .i64 0, .int .i64 1] 35)) := Lib.hid NB.out
      clear P3 KK NB c0 c2 r0
      generalize w3.drewN nq = w3' at P3_ KK_ NB_ ⊢
      have P3 := P3_
      have KK := KK_
      have NB := NB_
      clear P3_ KK_ NB_
      generalize w3' = w3 at P3 KK NB ⊢
      go_cut [] (fun wx => ∃ (t' : Ps) (mn mx : Int), Qz c wx t' ∧ Kp c.P w2 wx ∧ wx.heap[Nb]? = some (.cells #[.int .i64 5, .slice none 0 0, .int .i64 mn, .int .i64 mx, .bool false, .int .i64 0, .int .i64 1] 35) ∧ r = rRep2 c.G t' mn mx l)
      case first =>
        unfold rRep1 at HQ
        replace HQ : Hid (_ = r) := Lib.hid HQ.out.symm
        by_cases h0 : x = 42
        · subst h0
          rw [if_pos rfl] at HQ
          have d3 := cell_of_obj (o := 3) (u := .int .i64 0) NB.out rfl
          have z3 := frozen_of_obj (o := 3) NB.out
          have b2 : Below Nb w3 (w3.setCell ⟨Nb, 3, none⟩ (.int .i64 (-1))) := ((Below.refl Nb w3).setCell (p := ⟨Nb, 3, none⟩) (Nat.le_refl Nb) _)
          have nbz : (w3.setCell ⟨Nb, 3, none⟩ (.int .i64 (-1))).heap[Nb]? = some (.cells #[.int .i64 5, .slice none 0 0, .int .i64 0, .int .i64 (-1), .bool false, .int .i64 0, .int .i64 1] 35) := by rw [obj_set NB.out]; rfl
          have P_ := Lib.hid (P3.out.keepB b2 hH2)
          have KK_ := Lib.hid (KK.out.thenB b2 (Nat.le_of_eq HNE.out))
          have NB_ := Lib.hid nbz
          go_upto_region 9 with fail
          clear P3 KK NB b2 nbz d3 z3
          generalize w3.setCell ⟨Nb, 3, none⟩ (.int .i64 (-1)) = w4 at P_ KK_ NB_ ⊢
          have c2 := P_.out.c2
          have f2 := P_.out.fz 2
          have k5 := Kp.set c.P 2 w4 (.int .i64 ((t.i : Int) + 1))
          have P5 := Lib.hid (P_.out.step (by omega))
          have KK5 := Lib.hid (KK_.out.trans k5)
          have NB5 := Lib.hid ((k5.block Nb (heap_lt NB_.out) (by simpa using hNP)).trans NB_.out)
          clear k5 P_ KK_ NB_
          go_wp2_with fail
          go_meet
          exact ⟨_, 0, (-1), P5.out, KK5.out, NB5.out, HQ.out.symm⟩
        · have n0 : (x == 42) = false := by simpa using h0
          rw [if_neg h0] at HQ
          by_cases h1 : x = 43
          · subst h1
            rw [if_pos rfl] at HQ
            have d2 := cell_of_obj (o := 2) (u := .int .i64 0) NB.out rfl
            have z2 := frozen_of_obj (o := 2) NB.out
            have d3 := cell_of_obj (o := 3) (u := .int .i64 0) NB.out rfl
            have z3 := frozen_of_obj (o := 3) NB.out
            have b2 : Below Nb w3 ((w3.setCell ⟨Nb, 2, none⟩ (.int .i64 1)).setCell ⟨Nb, 3, none⟩ (.int .i64 (-1))) := (((Below.refl Nb w3).setCell (p := ⟨Nb, 2, none⟩) (Nat.le_refl Nb) _).setCell (p := ⟨Nb, 3, none⟩) (Nat.le_refl Nb) _)
            have nbz : ((w3.setCell ⟨Nb, 2, none⟩ (.int .i64 1)).setCell ⟨Nb, 3, none⟩ (.int .i64 (-1))).heap[Nb]? = some (.cells #[.int .i64 5, .slice none 0 0, .int .i64 1, .int .i64 (-1), .bool false, .int .i64 0, .int .i64 1] 35) := by rw [obj_set (obj_set NB.out)]; rfl
            have P_ := Lib.hid (P3.out.keepB b2 hH2)
            have KK_ := Lib.hid (KK.out.thenB b2 (Nat.le_of_eq HNE.out))
            have NB_ := Lib.hid nbz
            go_upto_region 12 with fail
            clear P3 KK NB b2 nbz d2 z2 d3 z3
            generalize (w3.setCell ⟨Nb, 2, none⟩ (.int .i64 1)).setCell ⟨Nb, 3, none⟩ (.int .i64 (-1)) = w4 at P_ KK_ NB_ ⊢
            have c2 := P_.out.c2
            have f2 := P_.out.fz 2
            have k5 := Kp.set c.P 2 w4 (.int .i64 ((t.i : Int) + 1))
            have P5 := Lib.hid (P_.out.step (by omega))
            have KK5 := Lib.hid (KK_.out.trans k5)
            have NB5 := Lib.hid ((k5.block Nb (heap_lt NB_.out) (by simpa using hNP)).trans NB_.out)
            clear k5 P_ KK_ NB_
            go_wp2_with fail
            go_meet
            exact ⟨_, 1, (-1), P5.out, KK5.out, NB5.out, HQ.out.symm⟩
          · have n1 : (x == 43) = false := by simpa using h1
            rw [if_neg h1] at HQ
            by_cases h2 : x = 63
            · subst h2
              rw [if_pos rfl] at HQ
              have d3 := cell_of_obj (o := 3) (u := .int .i64 0) NB.out rfl
              have z3 := frozen_of_obj (o := 3) NB.out
              have b2 : Below Nb w3 (w3.setCell ⟨Nb, 3, none⟩ (.int .i64 1)) := ((Below.refl Nb w3).setCell (p := ⟨Nb, 3, none⟩) (Nat.le_refl Nb) _)
              have nbz : (w3.setCell ⟨Nb, 3, none⟩ (.int .i64 1)).heap[Nb]? = some (.cells #[.int .i64 5, .slice none 0 0, .int .i64 0, .int .i64 1, .bool false, .int .i64 0, .int .i64 1] 35) := by rw [obj_set NB.out]; rfl
              have P_ := Lib.hid (P3.out.keepB b2 hH2)
              have KK_ := Lib.hid (KK.out.thenB b2 (Nat.le_of_eq HNE.out))
              have NB_ := Lib.hid nbz
              go_upto_region 15 with fail
              clear P3 KK NB b2 nbz d3 z3
              generalize w3.setCell ⟨Nb, 3, none⟩ (.int .i64 1) = w4 at P_ KK_ NB_ ⊢
              have c2 := P_.out.c2
              have f2 := P_.out.fz 2
              have k5 := Kp.set c.P 2 w4 (.int .i64 ((t.i : Int) + 1))
              have P5 := Lib.hid (P_.out.step (by omega))
              have KK5 := Lib.hid (KK_.out.trans k5)
              have NB5 := Lib.hid ((k5.block Nb (heap_lt NB_.out) (by simpa using hNP)).trans NB_.out)
              clear k5 P_ KK_ NB_
              go_wp2_with fail
              go_meet
              exact ⟨_, 0, 1, P5.out, KK5.out, NB5.out, HQ.out.symm⟩
            · have n2 : (x == 63) = false := by simpa using h2
              rw [if_neg h2] at HQ
              by_cases h3 : x = 123
              · subst h3
                rw [if_pos rfl] at HQ
                have CT := Lib.hid (countsRC P3.out hlt)
                go_wp2_with fail
                refine CT.out.mono ?_
                rintro e w8 ⟨rfl, p8, k8⟩
                generalize rCounts c.G t = q at p8 HQ ⊢
                obtain ⟨t8, lo, hi8⟩ := q
                simp only at p8 HQ ⊢
                have NB8 := Lib.hid ((k8.block Nb (heap_lt NB.out) (by simpa using hNP)).trans NB.out)
                have KK8 := Lib.hid (KK.out.trans k8)
                have P8 := Lib.hid p8
                clear p8 k8 NB KK P3 CT
                have d2 := cell_of_obj (o := 2) (u := .int .i64 0) NB8.out rfl
                have z2 := frozen_of_obj (o := 2) NB8.out
                have d3 := cell_of_obj (o := 3) (u := .int .i64 0) NB8.out rfl
                have z3 := frozen_of_obj (o := 3) NB8.out
                have b1 : Below Nb w8 (w8.setCell ⟨Nb, 2, none⟩ (.int .i64 lo)) := (Below.refl Nb w8).setCell (p := ⟨Nb, 2, none⟩) (Nat.le_refl Nb) _
                have b2 : Below Nb w8 ((w8.setCell ⟨Nb, 2, none⟩ (.int .i64 lo)).setCell ⟨Nb, 3, none⟩ (.int .i64 hi8)) := b1.setCell (p := ⟨Nb, 3, none⟩) (Nat.le_refl Nb) _
                have nbz : ((w8.setCell ⟨Nb, 2, none⟩ (.int .i64 lo)).setCell ⟨Nb, 3, none⟩ (.int .i64 hi8)).heap[Nb]? = some (.cells #[.int .i64 5, .slice none 0 0, .int .i64 lo, .int .i64 hi8, .bool false, .int .i64 0, .int .i64 1] 35) := by rw [obj_set (obj_set NB8.out)]; rfl
                have NBZ := Lib.hid nbz
                have BZ := Lib.hid b2
                clear b1 b2 nbz
                go_wp2_with fail
                go_meet
                exact ⟨_, lo, hi8, P8.out.keepB BZ.out hH2, KK8.out.thenB BZ.out (Nat.le_of_eq HNE.out), NBZ.out, HQ.out.symm⟩
              · have n3 : (x == 123) = false := by simpa using h3
                rw [if_neg h3] at HQ
                go_wp2_with fail
                go_ret
                rw [← HQ.out]
                exact ⟨_, rfl, P3.out, K2.out.trans KK.out, ND2.out.kp KK.out hPw⟩
      case rest =>
        obtain ⟨t9, mn, mx, p9, k9, nb9, hq⟩ := hcut
        have P9 := Lib.hid p9
        have KK9 := Lib.hid k9
        have NB9 := Lib.hid nb9
        have HQ9 : Hid (r = (skipS c.G t9 63, { nd 5 with mn := mn, mx := mx, lz := isR c.G t9 63, kids := 1 } :: l)) := Lib.hid hq
        clear p9 k9 nb9 hq HQ P3 KK NB
        generalize wc = w9 at P9 KK9 NB9
        have hp9 := P9.out.le
        have SK := Lib.hid (isRC P9.out 63 (by decide) (by decide))
        have SS : Hid ((isR c.G t9 63 = false → skipS c.G t9 63 = t9) ∧ (isR c.G t9 63 = true → skipS c.G t9 63 = t9.next)) := Lib.hid (by
          unfold skipS
          exact ⟨fun e => by rw [e]; rfl, fun e => by rw [e]; rfl⟩)
        generalize hlz : isR c.G t9 63 = lz at SK SS HQ9
        have hl9 : lz = true → t9.i < c.G.length := fun e => isR_lt (hlz.trans e)
        generalize skipS c.G t9 63 = t10 at SS HQ9
        have HL9 := Lib.hid hl9
        clear hlz hl9
        go_wp2_with fail
        refine SK.out.mono ?_
        rintro e w10 ⟨rfl, n10, rfl⟩
        have P_ := Lib.hid (P9.out.drewN n10)
        have KK_ := Lib.hid (KK9.out.trans (Kp.below (drewN_below (Below.refl w9.heap.size w9) n10)))
        have NB_ : Hid ((w9.drewN n10).heap[Nb]? = some (.cells #[.int .i64 5, .slice none 0 0, .int .i64 mn, .int .i64 mx, .bool false, .int .i64 0, .int .i64 1] 35)) := Lib.hid NB9.out
        clear P9 KK9 NB9 SK
        generalize w9.drewN n10 = w10 at P_ KK_ NB_ ⊢
        go_upto_if 81 with fail
        go_cut [] (fun wx => Qz c wx t10 ∧ Kp c.P w2 wx ∧ wx.heap[Nb]? = some (.cells #[.int .i64 5, .slice none 0 0, .int .i64 mn, .int .i64 mx, .bool lz, .int .i64 0, .int .i64 1] 35))
        case first =>
          cases lz
          · have E0 := Lib.hid (SS.out.1 rfl)
            go_wp2_with fail
            go_meet
            exact ⟨by rw [E0.out]; exact P_.out, KK_.out, NB_.out⟩
          · have E0 := Lib.hid (SS.out.2 rfl)
            have hl9 := HL9.out rfl
            have d4 := cell_of_obj (o := 4) (u := .bool false) NB_.out rfl
            have z4 := frozen_of_obj (o := 4) NB_.out
            have bN : Below Nb w10 (w10.setCell ⟨Nb, 4, none⟩ (.bool true)) := (Below.refl Nb w10).setCell (p := ⟨Nb, 4, none⟩) (Nat.le_refl Nb) _
            have P11 := Lib.hid (P_.out.keepB bN hH2)
            have KK11 := Lib.hid (KK_.out.thenB bN (Nat.le_of_eq HNE.out))
            have NB11 : Hid ((w10.setCell ⟨Nb, 4, none⟩ (.bool true)).heap[Nb]? = some (.cells #[.int .i64 5, .slice none 0 0, .int .i64 mn, .int .i64 mx, .bool true, .int .i64 0, .int .i64 1] 35)) := Lib.hid (by rw [obj_set NB_.out]; rfl)
            go_upto_region 20 with fail
            clear P_ KK_ NB_ bN d4 z4
            generalize w10.setCell ⟨Nb, 4, none⟩ (.bool true) = w11 at P11 KK11 NB11 ⊢
            have c2 := P11.out.c2
            have f2 := P11.out.fz 2
            have k5 := Kp.set c.P 2 w11 (.int .i64 ((t9.i : Int) + 1))
            have P5 := Lib.hid (P11.out.step (by omega))
            have KK5 := Lib.hid (KK11.out.trans k5)
            have NB5 := Lib.hid ((k5.block Nb (heap_lt NB11.out) (by simpa using hNP)).trans NB11.out)
            clear k5 P11 KK11 NB11
            go_wp2_with fail
            go_meet
            exact ⟨by rw [E0.out]; exact P5.out, KK5.out, NB5.out⟩
        case rest =>
          obtain ⟨p11, k11, nb11⟩ := hcut
          have P11 := Lib.hid p11
          have KK11 := Lib.hid k11
          have NB11 := Lib.hid nb11
          clear p11 k11 nb11 P_ KK_ NB_
          generalize wc = w11 at P11 KK11 NB11
          have nb := NB11.out
          have d0 := cell_of_obj (o := 0) nb rfl
          have d1 := cell_of_obj (o := 1) nb rfl
          have d2 := cell_of_obj (o := 2) nb rfl
          have d3 := cell_of_obj (o := 3) nb rfl
          have d4 := cell_of_obj (o := 4) nb rfl
          have d5 := cell_of_obj (o := 5) nb rfl
          have d6 := cell_of_obj (o := 6) nb rfl
          simp only [List.getElem_toArray, List.getElem_cons_zero, List.getElem_cons_succ] at d0 d1 d2 d3 d4 d5 d6
          have K11 := Lib.hid (K2.out.trans KK11.out)
          obtain ⟨ls, hls, hnv⟩ := ND2.out.kp KK11.out hPw
          obtain ⟨p, hp1, hp2, hp3⟩ := hnv.pv
          subst hp2
          have o1 : OwnN w11.heap.size (w11.alloc (.cells #[.int .i64 5, .slice none 0 0, .int .i64 mn, .int .i64 mx, .bool lz, .int .i64 0, .int .i64 1] 35)) (.slice (some ⟨w11.heap.size, 0, none⟩) 1 1) [⟨{ nd 5 with mn := mn, mx := mx, lz := lz, kids := 1 }, none, 0, 0⟩] := own_lit w11 _ _ 1 rfl eN_len rfl (Nat.le_refl _) (by omega)
          have rd1 := (NdsV.rd (hnv.kept ((Below.refl w11.heap.size w11).alloc (Nat.le_refl _) (.cells #[.int .i64 5, .slice none 0 0, .int .i64 mn, .int .i64 mx, .bool lz, .int .i64 0, .int .i64 1] 35)))).2
          have O1 := Lib.hid o1
          have RD1 := Lib.hid rd1
          have HNV := Lib.hid hnv
          have HLS := Lib.hid hls
          have HP3 := Lib.hid hp3
          have hs11 : w11.heap.size ≤ (w11.alloc (.cells #[.int .i64 5, .slice none 0 0, .int .i64 mn, .int .i64 mx, .bool lz, .int .i64 0, .int .i64 1] 35)).heap.size := by simp
          have hmx : [(⟨{ nd 5 with mn := mn, mx := mx, lz := lz, kids := 1 }, none, 0, 0⟩ : NdV)].length + ls.length ≤ 1000000000 := by
            have e : ls.length = l.length := by rw [← hls]; simp
            have := HLEN.out
            simp
            omega
          clear o1 rd1 hnv hls nb hp1 hp3
          go_wp2_with (at_builtin; go_must (refine wpList_app elem_nd rfl rfl rfl rfl O1.out RD1.out HP3.out eN_len eN_one hmx (by omega) hs11 ?_; intro v2 w2x o2 g2))
          go_ret
          rw [HQ9.out]
          have b2 : Below w11.heap.size w11 w2x := Below.grow ((Below.refl w11.heap.size w11).alloc (Nat.le_refl _) _) O1.out g2 (Nat.le_refl _) hs11
          have nn := nds_cons (y := ⟨{ nd 5 with mn := mn, mx := mx, lz := lz, kids := 1 }, none, 0, 0⟩) K11.out.size (Own.nil _ _ _ _ _) HNV.out.2 o2 b2
          rw [HLS.out] at nn
          exact ⟨_, rfl, P11.out.keep b2, K11.out.trans (Kp.below b2), nn⟩
  · have e1 := RE.out (.inl het)
    have HR := Lib.hid e1
    have he' : (t.err != 0) = true := by simpa using het
    clear e1 RE RG het
    generalize t.err = ee at c4 he'
    go_wp2_with fail
    go_quiet (fail)
    have P_ := Lib.hid (P.out.drewN nq)
    have K_ := Lib.hid (K.out.trans (Kp.below (drewN_below (Below.refl w1.heap.size w1) nq)))
    have ND2_ := Lib.hid (ND2.out.kept (drewN_below (Below.refl _ _) nq))
    clear P K ND2 c0 c2 c4
    generalize w1.drewN nq = w2 at P_ K_ ND2_ ⊢
    have P := P_
    have K := K_
    have ND2 := ND2_
    clear P_ K_ ND2_
    go_wp2_with fail
    go_ret
    rw [HR.out]
    exact ⟨_, rfl, P.out, K.out, ND2.out⟩
end Go.Proofs.YtooockbfagkknaaGreatDoor.syn
/- spoorref10: cat, alt; every depth. -/
namespace Go.Proofs.YtooockbfagkknaaGreatDoor.syn
open Go.RowKit Go.Proofs.YtooockbfagkknaaGreatDoor.sl Go.Proofs.YtooockbfagkknaaGreatDoor.cls
variable {c : Cx} {w : World} {s : Ps}
theorem rCatGo_stop {G : List Gt} {alt : Ps → Ps × List Nd} {d n : Nat} {t : Ps} {ps : List (List Nd)} (h : ¬ (t.err = 0 ∧ t.i < G.length ∧ isR G t 124 = false ∧ isR G t 41 = false)) : rCatGo G alt d (n + 1) t ps = (t, ps) := by rw [rCatGo, if_neg h]
theorem rCatGo_go {G : List Gt} {alt : Ps → Ps × List Nd} {d n : Nat} {t : Ps} {ps : List (List Nd)} (h : t.err = 0 ∧ t.i < G.length ∧ isR G t 124 = false ∧ isR G t 41 = false) : rCatGo G alt d (n + 1) t ps = rCatGo G alt d n (rRep G alt d t).1 (ps ++ [(rRep G alt d t).2]) := by rw [rCatGo, if_pos h]
theorem rAltGo_halt {G : List Gt} {alt : Ps → Ps × List Nd} {d n : Nat} {t : Ps} {ps : List (List Nd)} (h : ¬ (t.err = 0 ∧ isR G t 124 = true)) : rAltGo G alt d (n + 1) t ps = (t, ps) := by rw [rAltGo, if_neg h]
theorem rAltGo_go {G : List Gt} {alt : Ps → Ps × List Nd} {d n : Nat} {t : Ps} {ps : List (List Nd)} (h : t.err = 0 ∧ isR G t 124 = true) : rAltGo G alt d (n + 1) t ps = rAltGo G alt d n (rCat G alt d t.next).1 (ps ++ [(rCat G alt d t.next).2]) := by rw [rAltGo, if_pos h]
def RatRel (c : Cx) (w : World) (pvs : List PV) (v : Value) (t : Ps) (wr : World) : Prop :=
  Qz c wr t ∧ Kp c.P w wr ∧ OwnP w.heap.size wr v pvs ∧ ∀ p ∈ pvs, NdsV w.heap.size wr p.v p.ls
set_option maxHeartbeats 8000000 in
set_option maxRecDepth 100000 in
theorem catRC {m d : Nat} {alt : Ps → Ps × List Nd} (hG : Pos c.G) (A : AltRA c.G m alt) (hm : m ≤ 30) (C : d < 20 → AltRC c (d + 1) alt) (hd : d ≤ 20) (h : Qz c w s) (hi : s.i ≤ c.G.length) : Calls Tryz.prog 34 #[.pointer (some ⟨c.P, 0, none⟩), .int .i64 d] w (QnPost c w (rCat c.G alt d s)) := by
  have hln := h.len
  have hPw := h.lt
  have hHw := h.hH
  have hle := h.le
  have P0 := Lib.hid h
  have AA := Lib.hid A
  have CD := Lib.hid C
  clear h A C
  suffices key : ∀ CC, rCatGo c.G alt d (c.G.length + 2 - s.i) s [] = CC → ∀ r, (CC.1, joined 3 CC.2) = r → Calls Tryz.prog 34 #[.pointer (some ⟨c.P, 0, none⟩), .int .i64 d] w (QnPost c w r) from key _ rfl _ rfl
  intro CC hCC r hr
  have HC := Lib.hid hCC
  have HQ := Lib.hid hr
  clear hCC hr
  go_enter Tryz.func34, Tryz.ntmps34
  go_wp2_with fail
  go_loopg [5] (c.G.length + 40 - s.i) (fun g v wr => ∃ (n : Nat) (t : Ps) (pvs : List PV), RatRel c w pvs v t wr ∧ rCatGo c.G alt d n t (pvs.map PV.l) = CC ∧ s.i ≤ t.i ∧ t.i ≤ c.G.length + 40 ∧ (t.err = 0 → c.G.length + 2 ≤ n + t.i) ∧ g = c.G.length + 40 - t.i ∧ (t.err = 0 → t.i ≤ c.G.length) ∧ total (pvs.map PV.l) ≤ 3 * (t.i - s.i) ∧ pvs.length ≤ t.i)
  case atStart => exact ⟨c.G.length + 2 - s.i, s, [], ⟨P0.out, Kp.refl _ _, Own.nil _ _ _ _ _, by simp⟩, HC.out, Nat.le_refl _, by omega, fun _ => by omega, rfl, fun _ => hi, by simp [total], by simp⟩
  case round =>
    clear HC P0
    obtain ⟨n, t, pvs, ⟨p, k, op, nv⟩, hgo, hsi, hti40, hnf, rfl, hok, htot, hlen⟩ := hrel
    obtain ⟨ap, capp, rfl, rdp, -⟩ := op.rd
    have P := Lib.hid p
    have K := Lib.hid k
    have OP := Lib.hid op
    have NV := Lib.hid nv
    have RDP := Lib.hid rdp
    have GO := Lib.hid hgo
    have hti := p.le
    have htg := p.gr
    have hmx : (pvs.flatMap PV.ls).length ≤ 100000 := by rw [← total_pv]; omega
    have HTOT := Lib.hid htot
    have c0 := p.c0
    have c2 := p.c2
    have c4 := p.c4
    clear p k op nv rdp hgo htot
    by_cases he : t.err = 0
    · rw [he] at c4
      have hti2 := hok he
      have hnf2 := hnf he
      have HE := Lib.hid he
      clear he hok hnf
      obtain ⟨n, rfl⟩ : ∃ n', n = n' + 1 := ⟨n - 1, by omega⟩
      by_cases hi' : t.i < c.G.length
      · have i1 : (t.i : Int) < (c.G.length : Int) := by omega
        have IA : Hid (∀ n, Calls Tryz.prog 35 #[.pointer (some ⟨c.P, 0, none⟩), .int .i32 124] (wr.drewN n) fun e w' => e = .returned (.bool (isR c.G t 124)) ∧ ∃ m, w' = (wr.drewN n).drewN m) := Lib.hid fun n => isRC (P.out.drewN n) 124 (by decide) (by decide)
        have IB : Hid (∀ n, Calls Tryz.prog 35 #[.pointer (some ⟨c.P, 0, none⟩), .int .i32 41] (wr.drewN n) fun e w' => e = .returned (.bool (isR c.G t 41)) ∧ ∃ m, w' = (wr.drewN n).drewN m) := Lib.hid fun n => isRC (P.out.drewN n) 41 (by decide) (by decide)
        cases h1 : isR c.G t 124
        · rw [h1] at IA
          have H1 := Lib.hid h1
          clear h1
          cases h2 : isR c.G t 41
          · rw [h2] at IB
            have HCC : Hid (t.err = 0 ∧ t.i < c.G.length ∧ isR c.G t 124 = false ∧ isR c.G t 41 = false) := Lib.hid ⟨HE.out, hi', H1.out, h2⟩
            clear h2
            go_wp2_with fail
            go_quiet (first | (go_at_call_of 35 (124 : Int); exact Calls.quiet_of (IA.out _)) | (go_at_call_of 35 (41 : Int); exact Calls.quiet_of (IB.out _)))
            have P_ := Lib.hid (P.out.drewN nq)
            have K_ := Lib.hid (K.out.trans (Kp.below (drewN_below (Below.refl wr.heap.size wr) nq)))
            have NV_ := Lib.hid (show ∀ p ∈ pvs, NdsV w.heap.size (wr.drewN nq) p.v p.ls from fun p hp => (NV.out p hp).kept (drewN_below (Below.refl _ _) nq))
            have RDP_ := Lib.hid (RDP.out.drewN' nq)
            have OP_ := Lib.hid (show OwnP w.heap.size (wr.drewN nq) (.slice ap pvs.length capp) pvs from OP.out.drewN nq)
            clear P K NV RDP OP c0 c2 c4 IA IB
            generalize wr.drewN nq = w4 at P_ K_ NV_ RDP_ OP_ ⊢
            have P := P_
            have K := K_
            have NV := NV_
            have RDP := RDP_
            have OP := OP_
            clear P_ K_ NV_ RDP_ OP_
            have e1 := GO.out
            rw [rCatGo_go HCC.out] at e1
            have E1 := Lib.hid e1
            have AV := Lib.hid (rRep_rad (deep := d) AA.out hi' htg)
            clear e1 GO
            go_wp2_with fail
            refine (repeatRC hG AA.out hm CD.out hd P.out hi' HE.out).mono ?_
            rintro e w5 ⟨x, rfl, p5, k5, nd5⟩
            generalize rRep c.G alt d t = rr at p5 nd5 E1 AV
            obtain ⟨t5, l5⟩ := rr
            simp only at p5 nd5 E1 AV
            have ht5 := AV.out.2.1
            have hA2 := AV.out.1.top
            have P5 := Lib.hid p5
            have K5 := Lib.hid (K.out.trans k5)
            have OP5 := Lib.hid (Own.kp OP.out k5 hPw)
            have NV5 : Hid (∀ p ∈ pvs, NdsV w.heap.size w5 p.v p.ls) := Lib.hid fun p hp => (NV.out p hp).kp k5 hPw
            have hKs := K.out.size
            clear p5 k5 P K OP NV RDP HCC H1
            obtain ⟨ls, hls, hnv0⟩ := nd5
            have hnv := hnv0.mono hKs
            obtain ⟨p, hp1, hp2, hp3⟩ := hnv.pv
            subst hp1
            subst hp2
            rw [show p.v = Value.slice p.a p.n p.c from rfl]
            have HLS := Lib.hid hls
            have HNV : Hid (NdsV w.heap.size w5 p.v p.ls) := Lib.hid hnv
            have hs5 := K5.out.size
            have hpl : pvs.length < 1000000000 := by omega
            clear hls hnv hnv0 hp3
            go_wp2_with (at_builtin; go_must (refine wpList_app1 (v := .slice ap pvs.length capp) elem_pv rfl rfl rfl rfl (by simp) OP5.out p rfl eP_len eP_one hpl (by omega) hs5 ?_; intro v6 w6 o6 g6; have O6 := Lib.hid o6; have G6 := Lib.hid g6; clear o6 g6))
            have b6 := grow_below (Below.refl w.heap.size w5) OP5.out G6.out (Nat.le_refl _) hs5
            have nv6 : ∀ q ∈ pvs ++ [p], NdsV w.heap.size w6 q.v q.ls := fun q hq => by
              have h0 : NdsV w.heap.size w5 q.v q.ls := by
                rcases List.mem_append.1 hq with hq | hq
                · exact NV5.out q hq
                · obtain rfl : q = p := by simpa using hq
                  exact HNV.out
              exact (h0.kept ((Below.refl w5.heap.size w5).alloc (Nat.le_refl _) _)).grow (OP5.out.alloc _) G6.out
            go_roundg (c.G.length + 40 - t5.i)
            case measure => omega
            case rel =>
              have hl5 : p.ls.length = l5.length := by rw [← HLS.out]; simp
              have h4 := AV.out.1.top
              refine ⟨n, t5, pvs ++ [p], ⟨P5.out.keepB b6 hHw, K5.out.thenB b6 (Nat.le_refl _), O6.out, nv6⟩, ?_, ?_, ?_, ?_, rfl, ?_, ?_, ?_⟩
              · rw [pv_snoc, show p.l = l5 from HLS.out]; exact E1.out
              · omega
              · omega
              · intro h0; omega
              · exact AV.out.1.ok
              · rw [pv_snoc, total_snoc, show p.l = l5 from HLS.out]
                have h1 := AV.out.2.2
                have h3 := HTOT.out
                omega
              · rw [List.length_append, List.length_singleton]; omega
          · rw [h2] at IB
            have H2 := Lib.hid h2
            clear h2
            have e1 := GO.out
            rw [rCatGo_stop (fun h => by rw [H2.out] at h; cases h.2.2.2)] at e1
            have E1 := Lib.hid e1
            clear e1 GO
            go_wp2_with fail
            go_quiet (first | (go_at_call_of 35 (124 : Int); exact Calls.quiet_of (IA.out _)) | (go_at_call_of 35 (41 : Int); exact Calls.quiet_of (IB.out _)))
            have P_ := Lib.hid (P.out.drewN nq)
            have K_ := Lib.hid (K.out.trans (Kp.below (drewN_below (Below.refl wr.heap.size wr) nq)))
            have NV_ := Lib.hid (show ∀ p ∈ pvs, NdsV w.heap.size (wr.drewN nq) p.v p.ls from fun p hp => (NV.out p hp).kept (drewN_below (Below.refl _ _) nq))
            have RDP_ := Lib.hid (RDP.out.drewN' nq)
            have OP_ := Lib.hid (show OwnP w.heap.size (wr.drewN nq) (.slice ap pvs.length capp) pvs from OP.out.drewN nq)
            clear P K NV RDP OP c0 c2 c4
            generalize wr.drewN nq = w4 at P_ K_ NV_ RDP_ OP_ ⊢
            have P := P_
            have K := K_
            have NV := NV_
            have RDP := RDP_
            have OP := OP_
            clear P_ K_ NV_ RDP_ OP_
            go_wp2_with fail
            refine (joinRC (B := w.heap.size) 3 ap pvs capp w4 RDP.out NV.out K.out.size hmx).mono ?_
            rintro e w8 ⟨v8, rfl, nd8, b8⟩
            go_wp2_with fail
            go_ret
            rw [← HQ.out, ← E1.out]
            exact ⟨_, rfl, P.out.keep b8, K.out.trans (Kp.below b8), nd8⟩
        · rw [h1] at IA
          have H1 := Lib.hid h1
          clear h1
          have e1 := GO.out
          rw [rCatGo_stop (fun h => by rw [H1.out] at h; cases h.2.2.1)] at e1
          have E1 := Lib.hid e1
          clear e1 GO
          go_wp2_with fail
          go_quiet ((go_at_call_of 35 (124 : Int); exact Calls.quiet_of (IA.out _)))
          have P_ := Lib.hid (P.out.drewN nq)
          have K_ := Lib.hid (K.out.trans (Kp.below (drewN_below (Below.refl wr.heap.size wr) nq)))
          have NV_ := Lib.hid (show ∀ p ∈ pvs, NdsV w.heap.size (wr.drewN nq) p.v p.ls from fun p hp => (NV.out p hp).kept (drewN_below (Below.refl _ _) nq))
          have RDP_ := Lib.hid (RDP.out.drewN' nq)
          have OP_ := Lib.hid (show OwnP w.heap.size (wr.drewN nq) (.slice ap pvs.length capp) pvs from OP.out.drewN nq)
          clear P K NV RDP OP c0 c2 c4 IB
          generalize wr.drewN nq = w4 at P_ K_ NV_ RDP_ OP_ ⊢
          have P := P_
          have K := K_
          have NV := NV_
          have RDP := RDP_
          have OP := OP_
          clear P_ K_ NV_ RDP_ OP_
          go_wp2_with fail
          refine (joinRC (B := w.heap.size) 3 ap pvs capp w4 RDP.out NV.out K.out.size hmx).mono ?_
          rintro e w8 ⟨v8, rfl, nd8, b8⟩
          go_wp2_with fail
          go_ret
          rw [← HQ.out, ← E1.out]
          exact ⟨_, rfl, P.out.keep b8, K.out.trans (Kp.below b8), nd8⟩
      · have i1 : ¬ (t.i : Int) < (c.G.length : Int) := by omega
        have e1 := GO.out
        rw [rCatGo_stop (fun h => hi' h.2.1)] at e1
        have E1 := Lib.hid e1
        clear e1 GO
        go_wp2_with fail
        go_quiet (fail)
        have P_ := Lib.hid (P.out.drewN nq)
        have K_ := Lib.hid (K.out.trans (Kp.below (drewN_below (Below.refl wr.heap.size wr) nq)))
        have NV_ := Lib.hid (show ∀ p ∈ pvs, NdsV w.heap.size (wr.drewN nq) p.v p.ls from fun p hp => (NV.out p hp).kept (drewN_below (Below.refl _ _) nq))
        have RDP_ := Lib.hid (RDP.out.drewN' nq)
        have OP_ := Lib.hid (show OwnP w.heap.size (wr.drewN nq) (.slice ap pvs.length capp) pvs from OP.out.drewN nq)
        clear P K NV RDP OP c0 c2 c4
        generalize wr.drewN nq = w4 at P_ K_ NV_ RDP_ OP_ ⊢
        have P := P_
        have K := K_
        have NV := NV_
        have RDP := RDP_
        have OP := OP_
        clear P_ K_ NV_ RDP_ OP_
        go_wp2_with fail
        refine (joinRC (B := w.heap.size) 3 ap pvs capp w4 RDP.out NV.out K.out.size hmx).mono ?_
        rintro e w8 ⟨v8, rfl, nd8, b8⟩
        go_wp2_with fail
        go_ret
        rw [← HQ.out, ← E1.out]
        exact ⟨_, rfl, P.out.keep b8, K.out.trans (Kp.below b8), nd8⟩
    · have he' : (t.err == 0) = false := by simpa using he
      have HE := Lib.hid he
      have hstop : rCatGo c.G alt d n t (pvs.map PV.l) = (t, pvs.map PV.l) := by
        cases n with
        | zero => rfl
        | succ n => exact rCatGo_stop (fun h => he h.1)
      have HSTOP := Lib.hid hstop
      clear he hok hnf hstop
      generalize t.err = ee at c4 he'
      have e1 := GO.out
      rw [HSTOP.out ] at e1
      have E1 := Lib.hid e1
      clear e1 GO
      go_wp2_with fail
      go_quiet (fail)
      have P_ := Lib.hid (P.out.drewN nq)
      have K_ := Lib.hid (K.out.trans (Kp.below (drewN_below (Below.refl wr.heap.size wr) nq)))
      have NV_ := Lib.hid (show ∀ p ∈ pvs, NdsV w.heap.size (wr.drewN nq) p.v p.ls from fun p hp => (NV.out p hp).kept (drewN_below (Below.refl _ _) nq))
      have RDP_ := Lib.hid (RDP.out.drewN' nq)
      have OP_ := Lib.hid (show OwnP w.heap.size (wr.drewN nq) (.slice ap pvs.length capp) pvs from OP.out.drewN nq)
      clear P K NV RDP OP c0 c2 c4
      generalize wr.drewN nq = w4 at P_ K_ NV_ RDP_ OP_ ⊢
      have P := P_
      have K := K_
      have NV := NV_
      have RDP := RDP_
      have OP := OP_
      clear P_ K_ NV_ RDP_ OP_
      go_wp2_with fail
      refine (joinRC (B := w.heap.size) 3 ap pvs capp w4 RDP.out NV.out K.out.size hmx).mono ?_
      rintro e w8 ⟨v8, rfl, nd8, b8⟩
      go_wp2_with fail
      go_ret
      rw [← HQ.out, ← E1.out]
      exact ⟨_, rfl, P.out.keep b8, K.out.trans (Kp.below b8), nd8⟩
set_option maxHeartbeats 8000000 in
set_option maxRecDepth 100000 in
theorem altRC {m d : Nat} {alt : Ps → Ps × List Nd} (hG : Pos c.G) (A : AltRA c.G m alt) (hm : m ≤ 30) (C : d < 20 → AltRC c (d + 1) alt) (hd : d ≤ 20) (h : Qz c w s) (hi : s.i ≤ c.G.length) (he : s.err = 0) : Calls Tryz.prog 19 #[.pointer (some ⟨c.P, 0, none⟩), .int .i64 d] w (QnPost c w (rAlt1 c.G alt d s)) := by
  have hln := h.len
  have hPw := h.lt
  have hHw := h.hH
  have hle := h.le
  have hgr := h.gr
  have P0 := Lib.hid h
  have AA := Lib.hid A
  have CD := Lib.hid C
  clear h A C
  suffices key : ∀ DD, rAltGo c.G alt d (c.G.length + 2 - (rCat c.G alt d s).1.i) (rCat c.G alt d s).1 [(rCat c.G alt d s).2] = DD → ∀ r, (DD.1, joined 4 DD.2) = r → Calls Tryz.prog 19 #[.pointer (some ⟨c.P, 0, none⟩), .int .i64 d] w (QnPost c w r) from key _ rfl _ rfl
  intro DD hDD r hr
  have HC := Lib.hid hDD
  have HQ := Lib.hid hr
  have AV := Lib.hid (rCat_rad (deep := d) AA.out hi hgr)
  clear hDD hr
  go_enter Tryz.func19, Tryz.ntmps19
  go_wp2_with fail
  refine (catRC hG AA.out hm CD.out hd P0.out hi).mono ?_
  rintro e w1 ⟨x, rfl, p1, k1, nd1⟩
  generalize rCat c.G alt d s = t0 at p1 nd1 HC AV
  obtain ⟨t0, l0⟩ := t0
  simp only at p1 nd1 HC AV
  obtain ⟨ls0, hls0, hnv0⟩ := nd1
  obtain ⟨p0, hp1, hp2, hp3⟩ := hnv0.pv
  subst hp1
  subst hp2
  rw [show p0.v = Value.slice p0.a p0.n p0.c from rfl]
  have P1 := Lib.hid p1
  have K1 := Lib.hid k1
  have HLS0 := Lib.hid hls0
  have HNV0 : Hid (NdsV w.heap.size w1 p0.v p0.ls) := Lib.hid hnv0
  have o1 : OwnP w.heap.size (w1.alloc (.cells #[.slice p0.a p0.n p0.c] 22)) (.slice (some ⟨w1.heap.size, 0, none⟩) 1 1) [p0] := own_lit w1 _ [p0] 1 rfl eP_len rfl k1.size (by omega)
  have b1 := (Below.refl w1.heap.size w1).alloc (Nat.le_refl _) (.cells #[.slice p0.a p0.n p0.c] 22)
  have O1 := Lib.hid o1
  have B1 := Lib.hid b1
  clear p1 k1 hls0 hnv0 hp3 o1 b1 P0
  have ht0 := AV.out.1.top
  have hl0' := AV.out.1.le
  go_wp2_with fail
  go_loopg [5] (c.G.length + 40 - t0.i) (fun g v wr => ∃ (n : Nat) (t : Ps) (pvs : List PV), RatRel c w pvs v t wr ∧ rAltGo c.G alt d n t (pvs.map PV.l) = DD ∧ s.i ≤ t.i ∧ t.i ≤ c.G.length + 40 ∧ (t.err = 0 → c.G.length + 2 ≤ n + t.i) ∧ g = c.G.length + 40 - t.i ∧ (t.err = 0 → t.i ≤ c.G.length) ∧ (0 < pvs.length ∧ total (pvs.map PV.l) + 2 * pvs.length ≤ 3 * (t.i - s.i) + 3) ∧ pvs.length ≤ t.i + 1)
  case atStart =>
    have hl0 : p0.ls.length = l0.length := by rw [← HLS0.out]; simp
    refine ⟨c.G.length + 2 - t0.i, t0, [p0], ⟨P1.out.keep B1.out, K1.out.trans (Kp.below B1.out), O1.out, fun p hp => ?_⟩, ?_, AV.out.1.le, ?_, ?_, rfl, AV.out.1.ok, ⟨by simp, ?_⟩, ?_⟩
    · obtain rfl : p = p0 := by simpa using hp
      exact HNV0.out.kept B1.out
    · rw [List.map_cons, List.map_nil, show p0.l = l0 from HLS0.out]; exact HC.out
    · omega
    · intro h0; have := AV.out.1.ok h0; omega
    · have := AV.out.2
      rw [List.map_cons, List.map_nil, show p0.l = l0 from HLS0.out]
      simp [total]
      omega
    · simp
  case round =>
    clear HC P1 K1 HLS0 HNV0 O1 B1 AV
    obtain ⟨n, t, pvs, ⟨p, k, op, nv⟩, hgo, hsi, hti40, hnf, rfl, hok, ⟨h0l, htot⟩, hlen⟩ := hrel
    obtain ⟨ap, capp, rfl, rdp, -⟩ := op.rd
    have P := Lib.hid p
    have K := Lib.hid k
    have OP := Lib.hid op
    have NV := Lib.hid nv
    have RDP := Lib.hid rdp
    have GO := Lib.hid hgo
    have hti := p.le
    have htg := p.gr
    have hmx : (pvs.flatMap PV.ls).length ≤ 100000 := by rw [← total_pv]; omega
    have HTOT := Lib.hid htot
    have c4 := p.c4
    clear p k op nv rdp hgo htot
    by_cases he : t.err = 0
    · rw [he] at c4
      have hti2 := hok he
      have hnf2 := hnf he
      have HE := Lib.hid he
      clear he hok hnf
      obtain ⟨n, rfl⟩ : ∃ n', n = n' + 1 := ⟨n - 1, by omega⟩
      have IA := Lib.hid (isRC P.out 124 (by decide) (by decide))
      cases h1 : isR c.G t 124
      · rw [h1] at IA
        have H1 := Lib.hid h1
        clear h1
        have e1 := GO.out
        rw [rAltGo_halt (fun h => by rw [H1.out] at h; cases h.2)] at e1
        have E1 := Lib.hid e1
        clear e1 GO
        go_wp2_with fail
        refine IA.out.mono ?_
        rintro e w4' ⟨rfl, n4, rfl⟩
        have P_ := Lib.hid (P.out.drewN n4)
        have K_ := Lib.hid (K.out.trans (Kp.below (drewN_below (Below.refl wr.heap.size wr) n4)))
        have NV_ := Lib.hid (show ∀ p ∈ pvs, NdsV w.heap.size (wr.drewN n4) p.v p.ls from fun p hp => (NV.out p hp).kept (drewN_below (Below.refl _ _) n4))
        have RDP_ := Lib.hid (RDP.out.drewN' n4)
        have OP_ := Lib.hid (show OwnP w.heap.size (wr.drewN n4) (.slice ap pvs.length capp) pvs from OP.out.drewN n4)
        clear P K NV RDP OP c4 IA
        generalize wr.drewN n4 = w4 at P_ K_ NV_ RDP_ OP_ ⊢
        have P := P_
        have K := K_
        have NV := NV_
        have RDP := RDP_
        have OP := OP_
        clear P_ K_ NV_ RDP_ OP_
        go_wp2_with fail
        refine (joinRC (B := w.heap.size) 4 ap pvs capp w4 RDP.out NV.out K.out.size hmx).mono ?_
        rintro e w8 ⟨v8, rfl, nd8, b8⟩
        go_wp2_with fail
        go_ret
        rw [← HQ.out, ← E1.out]
        exact ⟨_, rfl, P.out.keep b8, K.out.trans (Kp.below b8), nd8⟩
      · have hlt := isR_lt h1
        rw [h1] at IA
        have e1 := GO.out
        rw [rAltGo_go ⟨HE.out, h1⟩] at e1
        have E1 := Lib.hid e1
        clear e1 GO h1
        go_wp2_with fail
        refine IA.out.mono ?_
        rintro e w4' ⟨rfl, n4, rfl⟩
        have P_ := Lib.hid (P.out.drewN n4)
        have K_ := Lib.hid (K.out.trans (Kp.below (drewN_below (Below.refl wr.heap.size wr) n4)))
        have NV_ := Lib.hid (show ∀ p ∈ pvs, NdsV w.heap.size (wr.drewN n4) p.v p.ls from fun p hp => (NV.out p hp).kept (drewN_below (Below.refl _ _) n4))
        have RDP_ := Lib.hid (RDP.out.drewN' n4)
        have OP_ := Lib.hid (show OwnP w.heap.size (wr.drewN n4) (.slice ap pvs.length capp) pvs from OP.out.drewN n4)
        clear P K NV RDP OP c4 IA
        generalize wr.drewN n4 = w4 at P_ K_ NV_ RDP_ OP_ ⊢
        have P := P_
        have K := K_
        have NV := NV_
        have RDP := RDP_
        have OP := OP_
        clear P_ K_ NV_ RDP_ OP_
        have c2 := P.out.c2
        have f2 := P.out.fz 2
        have k5 := Kp.set c.P 2 w4 (.int .i64 ((t.i : Int) + 1))
        have P_ := Lib.hid (P.out.step (by omega))
        have K_ := Lib.hid (K.out.trans k5)
        have OP_ := Lib.hid (Own.kp OP.out k5 hPw)
        have NV_ : Hid (∀ p ∈ pvs, NdsV w.heap.size (w4.setCell ⟨c.P, 2, none⟩ (.int .i64 ((t.i : Int) + 1))) p.v p.ls) := Lib.hid fun p hp => (NV.out p hp).kp k5 hPw
        go_upto_region 4 with fail
        clear P K OP NV RDP c2 f2 k5
        generalize w4.setCell ⟨c.P, 2, none⟩ (.int .i64 ((t.i : Int) + 1)) = w4' at P_ K_ OP_ NV_ ⊢
        have AV := Lib.hid (rCat_rad (deep := d) AA.out (s := t.next) (by simp; omega) htg)
        go_wp2_with fail
        refine (catRC hG AA.out hm CD.out hd P_.out (by simp; omega)).mono ?_
        rintro e w5 ⟨x, rfl, p5, k5, nd5⟩
        generalize rCat c.G alt d t.next = rr at p5 nd5 E1 AV
        obtain ⟨t5, l5⟩ := rr
        simp only at p5 nd5 E1 AV
        have P5 := Lib.hid p5
        have K5 := Lib.hid (K_.out.trans k5)
        have OP5 := Lib.hid (Own.kp OP_.out k5 hPw)
        have NV5 : Hid (∀ p ∈ pvs, NdsV w.heap.size w5 p.v p.ls) := Lib.hid fun p hp => (NV_.out p hp).kp k5 hPw
        have hKs := K_.out.size
        have hA1 := AV.out.1.le
        have hA2 := AV.out.1.top
        simp only [next_i] at hA1
        clear p5 k5 P_ K_ OP_ NV_
        obtain ⟨ls, hls, hnv0⟩ := nd5
        have hnv := hnv0.mono hKs
        obtain ⟨p, hp1, hp2, hp3⟩ := hnv.pv
        subst hp1
        subst hp2
        rw [show p.v = Value.slice p.a p.n p.c from rfl]
        have HLS := Lib.hid hls
        have HNV : Hid (NdsV w.heap.size w5 p.v p.ls) := Lib.hid hnv
        have hs5 := K5.out.size
        have hpl : pvs.length < 1000000000 := by omega
        clear hls hnv hnv0 hp3
        go_wp2_with (at_builtin; go_must (refine wpList_app1 (v := .slice ap pvs.length capp) elem_pv rfl rfl rfl rfl (by simp) OP5.out p rfl eP_len eP_one hpl (by omega) hs5 ?_; intro v6 w6 o6 g6; have O6 := Lib.hid o6; have G6 := Lib.hid g6; clear o6 g6))
        have b6 := grow_below (Below.refl w.heap.size w5) OP5.out G6.out (Nat.le_refl _) hs5
        have nv6 : ∀ q ∈ pvs ++ [p], NdsV w.heap.size w6 q.v q.ls := fun q hq => by
          have h0 : NdsV w.heap.size w5 q.v q.ls := by
            rcases List.mem_append.1 hq with hq | hq
            · exact NV5.out q hq
            · obtain rfl : q = p := by simpa using hq
              exact HNV.out
          exact (h0.kept ((Below.refl w5.heap.size w5).alloc (Nat.le_refl _) _)).grow (OP5.out.alloc _) G6.out
        go_roundg (c.G.length + 40 - t5.i)
        case measure => omega
        case rel =>
          have hl5 : p.ls.length = l5.length := by rw [← HLS.out]; simp
          have h1 := AV.out.1.le
          have h2 := AV.out.2
          have h4 := AV.out.1.top
          simp only [next_i] at h1 h2
          refine ⟨n, t5, pvs ++ [p], ⟨P5.out.keepB b6 hHw, K5.out.thenB b6 (Nat.le_refl _), O6.out, nv6⟩, ?_, ?_, ?_, ?_, ?_, ?_, ⟨by simp, ?_⟩, ?_⟩
          · rw [pv_snoc, show p.l = l5 from HLS.out]; exact E1.out
          · omega
          · omega
          · intro h0; omega
          · rfl
          · exact AV.out.1.ok
          · rw [pv_snoc, total_snoc, show p.l = l5 from HLS.out, List.length_append, List.length_singleton]
            have h3 := HTOT.out
            omega
          · rw [List.length_append, List.length_singleton]; omega
    · have he' : (t.err == 0) = false := by simpa using he
      have HE := Lib.hid he
      have hstop : rAltGo c.G alt d n t (pvs.map PV.l) = (t, pvs.map PV.l) := by
        cases n with
        | zero => rfl
        | succ n => exact rAltGo_halt (fun h => he h.1)
      have e1 := GO.out
      rw [hstop] at e1
      have E1 := Lib.hid e1
      clear e1 GO he hok hnf hstop
      generalize t.err = ee at c4 he'
      go_wp2_with fail
      refine (joinRC (B := w.heap.size) 4 ap pvs capp wr RDP.out NV.out K.out.size hmx).mono ?_
      rintro e w8 ⟨v8, rfl, nd8, b8⟩
      go_wp2_with fail
      go_ret
      rw [← HQ.out, ← E1.out]
      exact ⟨_, rfl, P.out.keep b8, K.out.trans (Kp.below b8), nd8⟩
theorem altR_all (c : Cx) (hG : Pos c.G) : ∀ (n k : Nat), k + n = 21 → 0 < n → AltRC c k (rAlt c.G n k)
  | 0, k, h, h0 => absurd h0 (by omega)
  | n + 1, k, h, _ => fun s w p hi he => altRC hG (rAlt_rad n (k + 1)) (by omega) (fun hk => altR_all c hG n (k + 1) (by omega) (by omega)) (by omega) p hi he
end Go.Proofs.YtooockbfagkknaaGreatDoor.syn
/- spoorref10: Parse. -/
namespace Go.Proofs.YtooockbfagkknaaGreatDoor.syn
open Go.RowKit Go.Proofs.YtooockbfagkknaaGreatDoor.sl Go.Proofs.YtooockbfagkknaaGreatDoor.cls
abbrev OwnR32 (B : Nat) (w : World) (v : Value) (l : List Int) : Prop := Own ei 1 21 B w v l
theorem elem_r32 : ElemTy Tryz.prog 50 21 1 4 := ElemTy.mk' (z := .int .i32 0) Tryz.underlying50 (by kernel_rfl) rfl (by decide)
theorem runesR_take (G : List Gt) {k : Nat} (h : k < G.length) : (runesR G).take (k + 1) = (runesR G).take k ++ [rnR G k] := by
  rw [List.take_add_one, runesR_at h]
  rfl
theorem placesR_take (G : List Gt) {k : Nat} (h : k ≤ G.length) : (placesR G).take (k + 1) = (placesR G).take k ++ [syn.place G k] := by
  rw [List.take_add_one, placesR_at h]
  rfl
theorem own_obj {α : Type} {enc : α → List Value} {k : Nat} {E T : TypeId} {B P o : Nat} {w : World} {v u : Value} {l : List α} {cs : Array Value} (h : Own enc k E B w v l) (hP : w.heap[P]? = some (.cells cs T)) (hne : E ≠ T) : Own enc k E B (w.setCell ⟨P, o, none⟩ u) v l :=
  Own.blk h fun g hg => Below.heap_setCell _ _ _ _ (by intro e'; simp only at e'; exact own_ne h hP hne (by rw [hg, e']))
def refParseF (l : List UInt8) : List Nd × Int × Int := if 120 < l.length then ([], 2, 0) else rParse (allF l)
theorem rParse2 (G : List Gt) : rParse G = parse2 G (rAlt G 21 0 ps0) := rfl
/-- The parser while its runes are gathered. -/
def PObj (w : World) (P : Nat) (vr vp : Value) : Prop := w.heap[P]? = some (.cells #[vr, vp, .int .i64 0, .int .i64 0, .int .i64 0, .int .i64 0] 52)
def Gath (w : World) (P : Nat) (ga : Option Addr) (gc : Nat) (G : List Gt) (R : List Int) (S : List Int) (wr : World) : Prop :=
  ∃ vr vp, PObj wr P vr vp ∧ OwnR32 P wr vr R ∧ OwnI P wr vp S ∧ OwnG P wr (.slice ga G.length gc) G ∧ Below P w wr
set_option maxHeartbeats 8000000 in
set_option maxRecDepth 100000 in
theorem refParseC (l : List UInt8) (hl : l.length ≤ 9223372036854775807) (w : World) : Calls Tryz.prog 6 #[str l] w (ParsePost w (refParseF l)) := by
  have hsz := str_size l
  by_cases h120 : 120 < l.length
  · have e1 : refParseF l = ([], 2, 0) := by simp [refParseF, h120]
    rw [e1]
    obtain ⟨bs, hbs⟩ : ∃ bs : ByteArray, bs = ⟨l.toArray⟩ := ⟨_, rfl⟩
    show Calls Tryz.prog 6 #[.string ⟨l.toArray⟩] w _
    rw [← hbs] at hsz ⊢
    have i1 : (120 : Int) < (bs.size : Int) := by omega
    have i2 : (bs.size : Int) ≤ 9223372036854775807 := by omega
    clear hbs hsz e1 h120 hl
    go_enter Tryz.func6, Tryz.ntmps6
    go_wp2_with fail
    go_ret3
    exact ⟨_, rfl, Nds.nil _ _, Below.refl _ _⟩
  · have e1 : refParseF l = rParse (allF l) := by simp [refParseF, h120]
    rw [e1]
    have hGl : (allF l).length ≤ l.length := allGo_len _ _
    have HGN := Lib.hid (allGo_n l.length l)
    have HPOS := Lib.hid (pos_all l)
    obtain ⟨bs, hbs⟩ : ∃ bs : ByteArray, bs = ⟨l.toArray⟩ := ⟨_, rfl⟩
    have HBS := Lib.hid hbs
    show Calls Tryz.prog 6 #[.string ⟨l.toArray⟩] w _
    rw [← hbs] at hsz ⊢
    have i1 : ¬ (120 : Int) < (bs.size : Int) := by omega
    clear hbs e1
    go_enter Tryz.func6, Tryz.ntmps6
    have b0 := (Below.refl w.heap.size w).alloc (Nat.le_refl _) (.cells #[.slice none 0 0, .slice none 0 0, .int .i64 0, .int .i64 0, .int .i64 0, .int .i64 0] 52)
    have ob0 := heap_alloc_new w (.cells #[.slice none 0 0, .slice none 0 0, .int .i64 0, .int .i64 0, .int .i64 0, .int .i64 0] 52)
    have B0 := Lib.hid b0
    have OB0 : Hid (PObj (w.alloc (.cells #[.slice none 0 0, .slice none 0 0, .int .i64 0, .int .i64 0, .int .i64 0, .int .i64 0] 52)) w.heap.size (.slice none 0 0) (.slice none 0 0)) := Lib.hid ob0
    have hP0 := heap_lt ob0
    clear b0 ob0
    go_upto_region 5 with fail
    generalize w.alloc (.cells #[.slice none 0 0, .slice none 0 0, .int .i64 0, .int .i64 0, .int .i64 0, .int .i64 0] 52) = w0 at B0 OB0 hP0 ⊢
    have RB := Lib.hid (rd_bytes w0 l (by omega))
    rw [← HBS.out] at RB
    have hcv : (convert 9 41 (.string bs)).run Tryz.prog w0 = .ok (.slice (some ⟨w0.heap.size, 0, none⟩) bs.size (grownCap w0 bs.size 0 5)) (Lib.bytesWorld w0 5 bs) := Lib.run_convert_string_bytes w0 _ _ _ bs Tryz.underlying9 Tryz.underlying41 Tryz.underlying5
    generalize grownCap w0 bs.size 0 5 = bc at hcv RB
    have BW := Lib.hid (Lib.bytesWorld_below w0 5 bs)
    generalize Lib.bytesWorld w0 5 bs = wb at hcv RB BW
    have AC := Lib.hid (allRC _ l bc wb RB.out (by omega))
    have hgn : ∀ g ∈ allF l, 1 ≤ g.2 ∧ g.2 ≤ 4 := HGN.out
    generalize hG : allF l = G at AC hGl HPOS hgn ⊢
    have HALL := Lib.hid hG
    clear hG
    have PB := Lib.hid (place_bound G hgn)
    have HGX := Lib.hid hgn
    clear HBS hgn HGN RB
    have hG120 : G.length ≤ 120 := by omega
    generalize hP : w.heap.size = P at B0 OB0 hP0 ⊢
    have HP := Lib.hid hP
    clear hP
    go_wp2_with fail
    refine AC.out.mono ?_
    rintro e w1 ⟨v, rfl, o1, b1⟩
    have hw0 := Nat.le_of_lt hP0
    have hwb := BW.out.size
    have B1 := Lib.hid ((B0.out.trans (BW.out.mono hw0)).trans (b1.mono (Nat.le_trans hw0 hwb)))
    have OB1 : Hid (PObj w1 P (.slice none 0 0) (.slice none 0 0)) := Lib.hid ((b1.block P (by omega)).trans ((BW.out.block P hP0).trans OB0.out))
    obtain ⟨ga, gc, rfl, -, -⟩ := o1.rd
    have O1 : Hid (OwnG P w1 (.slice ga G.length gc) G) := Lib.hid (o1.mono (Nat.le_trans hw0 hwb))
    clear o1 b1 BW AC hcv B0 OB0 hP0
    go_wp2_with fail
    go_loopg [6, 8] G.length (fun g x6 x8 wr => ∃ (k : Nat), k ≤ G.length ∧ g = G.length - k ∧ x6 = .int .i64 (syn.place G k) ∧ x8 = .int .i64 k ∧ Gath w P ga gc G ((runesR G).take k) ((placesR G).take k) wr)
    case atStart => exact ⟨0, Nat.zero_le _, rfl, rfl, rfl, _, _, OB1.out, Own.nil _ _ _ _ _, Own.nil _ _ _ _ _, O1.out, B1.out⟩
    case round =>
      clear OB1 B1 O1
      obtain ⟨k, hk, rfl, rfl, rfl, vr, vp, ob, orr, op, og, bl⟩ := hrel
      have pb := PB.out k hk
      by_cases hlt : k < G.length
      · have lr : ((runesR G).take k).length = k := by rw [List.length_take, runesR_len]; omega
        have lp : ((placesR G).take k).length = k := by rw [List.length_take, placesR_len]; omega
        have HR1 := Lib.hid (runesR_take G hlt)
        have HP1 := Lib.hid (placesR_take G (Nat.le_of_lt hlt))
        generalize (runesR G).take k = R at orr lr HR1
        generalize (placesR G).take k = S at op lp HP1
        obtain ⟨⟨gr, gn⟩, hg⟩ : ∃ x, G[k]? = some x := ⟨_, List.getElem?_eq_getElem hlt⟩
        have hps := place_succ G hg
        have gb := HGX.out _ (List.mem_of_getElem? hg)
        simp only at hps gb
        have hbd : badB G k = (gr == 65533 && gn == 1) := by unfold badB; rw [hg]
        have hrn : rnR G k = if badB G k = true then -1 else gr := by
          unfold rnR runeAt
          rw [List.getD_eq_getElem?_getD, hg]
          rfl
        obtain ⟨ga', gc', ev, rdg, -⟩ := og.rd
        simp only [Value.slice.injEq] at ev
        obtain ⟨rfl, -, rfl⟩ := ev
        obtain ⟨b, off, hga2, hbl, hc⟩ := rdg.cells eG_len hg
        have r0 := hc 0 (.int .i32 gr) (by omega) rfl
        have r1 := hc 1 (.int .i64 gn) (by omega) rfl
        simp only [Nat.add_zero] at r0
        simp only [← Nat.add_assoc] at r1
        have R0 := Lib.hid r0
        have R1 := Lib.hid r1
        have HGA := Lib.hid hga2
        have HG := Lib.hid hg
        have HPS := Lib.hid hps
        have HBD := Lib.hid hbd
        have HRN := Lib.hid hrn
        have OB := Lib.hid ob
        have OR := Lib.hid orr
        have OP := Lib.hid op
        have OG := Lib.hid og
        have BL := Lib.hid bl
        have LR := Lib.hid lr
        have LP := Lib.hid lp
        have hPl := heap_lt ob
        have hPw : P ≤ wr.heap.size := Nat.le_of_lt hPl
        generalize hat : syn.place G k = at0 at HPS HP1 pb ⊢
        obtain ⟨ra, rc, rfl, -, -⟩ := orr.rd
        clear hat hc hg hps hbd hrn rdg ob orr op og bl lr lp hga2 r0 r1
        go_upto_region 9 with fail
        go_cut [37] (fun bv wx => bv = .bool (badB G k) ∧ wx = wr)
        case first =>
          have r0 := R0.out
          have r1 := R1.out
          have hga2 := HGA.out
          subst hga2
          by_cases h1 : gr = 65533
          · have hb : badB G k = (gn == 1) := by rw [HBD.out, h1]; rfl
            have HB := Lib.hid hb
            subst h1
            clear hb
            by_cases h2 : gn = 1
            · subst h2
              go_wp2_with fail
              go_meet
              exact ⟨by rw [HB.out]; rfl, rfl⟩
            · have n2 : (gn == 1) = false := by simpa using h2
              go_wp2_with fail
              go_meet
              exact ⟨by rw [HB.out, n2], rfl⟩
          · have n1 : (gr == 65533) = false := by simpa using h1
            have hb : badB G k = false := by rw [HBD.out, n1]; rfl
            have HB := Lib.hid hb
            clear hb
            go_wp2_with fail
            go_meet
            exact ⟨by rw [HB.out], rfl⟩
        case rest =>
          obtain ⟨rfl, hwc⟩ := hcut
          subst hwc
          go_upto_if 37 with fail
          go_cut [] (fun wx => ∃ vr', PObj wx P vr' vp ∧ OwnR32 P wx vr' (R ++ [rnR G k]) ∧ OwnI P wx vp S ∧ OwnG P wx (.slice ga G.length gc) G ∧ Below P w wx)
          case first =>
            have c0 := cell_of_obj (o := 0) (u := .slice ra R.length rc) OB.out rfl
            have hlr : R.length < 1000000000 := by have := LR.out; omega
            have NRO : Hid ((Value.slice ra R.length rc).ownBlock ≠ some P) := Lib.hid (own_ne OR.out OB.out (by decide))
            have APR : Hid (Apart vp (.slice ra R.length rc)) := Lib.hid (own_apart OP.out OR.out (by decide))
            have AGR : Hid (Apart (.slice ga G.length gc) (.slice ra R.length rc)) := Lib.hid (own_apart OG.out OR.out (by decide))
            cases hb : badB G k
            · have HB := Lib.hid hb
              clear hb
              have r0 := R0.out
              have hga2 := HGA.out
              subst hga2
              have c0' : (wc.drew.alloc (.cells #[.int .i32 gr] 21)).cell? ⟨P, 0, none⟩ = some (.slice ra R.length rc) := by
                rw [World.cell?_of_block (Below.heap_alloc wc.drew _ P hPl)]
                exact c0
              have OR' : Hid (OwnR32 P wc.drew (.slice ra R.length rc) R) := Lib.hid (OR.out.drewN 1)
              have OP' : Hid (OwnI P wc.drew vp S) := Lib.hid (OP.out.drewN 1)
              have OG' : Hid (OwnG P wc.drew (.slice (some ⟨b, off, none⟩) G.length gc) G) := Lib.hid (OG.out.drewN 1)
              have OB' : Hid (PObj wc.drew P (.slice ra R.length rc) vp) := Lib.hid OB.out
              have BL' : Hid (Below P w wc.drew) := Lib.hid (BL.out.trans ((drewN_below (Below.refl P wc) 1)))
              have hPw' : P ≤ wc.drew.heap.size := hPw
              have hPl' : P < wc.drew.heap.size := hPl
              go_wp2_with fail
              go_region_law (refine step_app1 (w := wc.drew) (E' := 21) (cs := #[.int .i32 gr]) (v := .slice ra R.length rc) elem_r32 rfl rfl (by simp [Act.eval, Act.put]) (by simp [Act.eval, Act.put]) rfl OR'.out gr rfl ei_len ei_one hlr (by omega) hPw' ?_; intro v6 w6 o6 g6; have ob6 : PObj w6 P (.slice ra R.length rc) vp := (g6.block P (by simp; omega) (fun e => NRO.out e.symm)).trans ((Below.heap_alloc _ _ P hPl').trans OB'.out); have k6 := cell_of_obj (o := 0) (u := .slice ra R.length rc) ob6 rfl; have z6 := frozen_of_obj (o := 0) ob6; have OB6 := Lib.hid ob6; obtain ⟨a6, c6, rfl, -, -⟩ := o6.rd; have O6 : Hid (OwnR32 P w6 (.slice a6 (R.length + 1) c6) (R ++ [gr])) := Lib.hid (by simpa using o6); have OP6 : Hid (OwnI P w6 vp S) := Lib.hid ((OP'.out.alloc _).keep g6 APR.out); have OG6 : Hid (OwnG P w6 (.slice (some ⟨b, off, none⟩) G.length gc) G) := Lib.hid ((OG'.out.alloc _).keep g6 AGR.out); have B6 := Lib.hid (BL'.out.trans (grow_below (Below.refl P wc.drew) OR'.out g6 (Nat.le_refl _) hPw')); clear ob6 o6 g6)
              all_goals go_wp2_with fail
              all_goals go_meet
              all_goals have hb := HB.out
              all_goals (
                have ob7 : PObj (w6.setCell ⟨P, 0, none⟩ (.slice a6 (R.length + 1) c6)) P (.slice a6 (R.length + 1) c6) vp := by unfold PObj; rw [obj_set OB6.out]; rfl
                have or7 := own_obj (o := 0) (u := (.slice a6 (R.length + 1) c6)) O6.out OB6.out (by decide)
                have op7 := own_obj (o := 0) (u := (.slice a6 (R.length + 1) c6)) OP6.out OB6.out (by decide)
                have og7 := own_obj (o := 0) (u := (.slice a6 (R.length + 1) c6)) OG6.out OB6.out (by decide)
                have b7 := B6.out.setCell (p := ⟨P, 0, none⟩) (Nat.le_refl P) (.slice a6 (R.length + 1) c6)
                have hr := HRN.out
                rw [hb] at hr
                rw [hr]
                exact ⟨_, ob7, or7, op7, og7, b7⟩)
            · have HB := Lib.hid hb
              clear hb
              go_wp2_with (at_builtin; go_must (refine wpList_app1 (w := wc) (v := .slice ra R.length rc) elem_r32 rfl rfl rfl rfl (by simp) OR.out (-1) rfl ei_len ei_one hlr (by omega) hPw ?_; intro v6 w6 o6 g6; have ob6 : PObj w6 P (.slice ra R.length rc) vp := (g6.block P (by simp; omega) (fun e => NRO.out e.symm)).trans ((Below.heap_alloc _ _ P hPl).trans OB.out); have k6 := cell_of_obj (o := 0) (u := .slice ra R.length rc) ob6 rfl; have z6 := frozen_of_obj (o := 0) ob6; have OB6 := Lib.hid ob6; obtain ⟨a6, c6, rfl, -, -⟩ := o6.rd; have O6 : Hid (OwnR32 P w6 (.slice a6 (R.length + 1) c6) (R ++ [-1])) := Lib.hid (by simpa using o6); have OP6 : Hid (OwnI P w6 vp S) := Lib.hid ((OP.out.alloc _).keep g6 APR.out); have OG6 : Hid (OwnG P w6 (.slice ga G.length gc) G) := Lib.hid ((OG.out.alloc _).keep g6 AGR.out); have B6 := Lib.hid (BL.out.trans (grow_below (Below.refl P wc) OR.out g6 (Nat.le_refl _) hPw)); clear ob6 o6 g6))
              go_meet
              have hb := HB.out
              have ob7 : PObj (w6.setCell ⟨P, 0, none⟩ (.slice a6 (R.length + 1) c6)) P (.slice a6 (R.length + 1) c6) vp := by unfold PObj; rw [obj_set OB6.out]; rfl
              have or7 := own_obj (o := 0) (u := (.slice a6 (R.length + 1) c6)) O6.out OB6.out (by decide)
              have op7 := own_obj (o := 0) (u := (.slice a6 (R.length + 1) c6)) OP6.out OB6.out (by decide)
              have og7 := own_obj (o := 0) (u := (.slice a6 (R.length + 1) c6)) OG6.out OB6.out (by decide)
              have b7 := B6.out.setCell (p := ⟨P, 0, none⟩) (Nat.le_refl P) (.slice a6 (R.length + 1) c6)
              have hr := HRN.out
              rw [hb] at hr
              rw [hr]
              exact ⟨_, ob7, or7, op7, og7, b7⟩
          case rest =>
            obtain ⟨vr', ob, orr, op, og, bl⟩ := hcut
            have OB' := Lib.hid ob
            have OR' := Lib.hid orr
            have OP' := Lib.hid op
            have OG' := Lib.hid og
            have BL' := Lib.hid bl
            have hPl' : P < wc.heap.size := heap_lt ob
            have hPw' : P ≤ wc.heap.size := Nat.le_of_lt hPl'
            have c1 := cell_of_obj (o := 1) (u := vp) ob rfl
            have hlp : S.length < 1000000000 := by have := LP.out; omega
            have NPO : Hid (vp.ownBlock ≠ some P) := Lib.hid (own_ne op ob (by decide))
            have ARP : Hid (Apart vr' vp) := Lib.hid (own_apart orr op (by decide))
            have AGP : Hid (Apart (.slice ga G.length gc) vp) := Lib.hid (own_apart og op (by decide))
            clear ob orr op og bl OB OR OP OG BL R0 R1
            have hga2 := HGA.out
            subst hga2
            have Q1 : ∀ wx : World, OwnG P wx (.slice (some ⟨b, off, none⟩) G.length gc) G → wx.cell? ⟨b, off + k * 2 + 1, none⟩ = some (.int .i64 gn) := fun wx og => by
              obtain ⟨a', c', ev, rd, -⟩ := og.rd
              simp only [Value.slice.injEq] at ev
              obtain ⟨rfl, -, rfl⟩ := ev
              obtain ⟨b', off', e, -, hc⟩ := rd.cells eG_len HG.out
              cases e
              have := hc 1 (.int .i64 gn) (by omega) rfl
              simpa [← Nat.add_assoc] using this
            have Q1 := Lib.hid Q1
            have hbP1 : ¬ b = P := fun e => own_ne OG'.out OB'.out (by decide) (by rw [e]; rfl)
            have hbP2 : ¬ P = b := fun e => hbP1 e.symm
            generalize wc = w5 at OB' OR' OP' OG' BL' hPl' hPw' c1 ⊢
            go_wp2_with (at_builtin; go_must (refine wpList_app1 (w := w5) (v := vp) elem_i rfl rfl rfl rfl (by simp) OP'.out at0 rfl eI_len eI_one hlp (by omega) hPw' ?_; intro v6 w6 o6 g6; have OB6 : Hid (PObj w6 P vr' vp) := Lib.hid ((g6.block P (by simp; omega) (fun e => NPO.out e.symm)).trans ((Below.heap_alloc _ _ P hPl').trans OB'.out)); have k6 := cell_of_obj (o := 1) (u := vp) OB6.out rfl; have z6 := frozen_of_obj (o := 1) OB6.out; obtain ⟨a6, c6, rfl, -, -⟩ := o6.rd; have O6 : Hid (OwnI P w6 (.slice a6 (S.length + 1) c6) (S ++ [at0])) := Lib.hid (by simpa using o6); have OR6 : Hid (OwnR32 P w6 vr' (R ++ [rnR G k])) := Lib.hid ((OR'.out.alloc _).keep g6 ARP.out); have OG6 : Hid (OwnG P w6 (.slice (some ⟨b, off, none⟩) G.length gc) G) := Lib.hid ((OG'.out.alloc _).keep g6 AGP.out); have B6 := Lib.hid (BL'.out.trans (grow_below (Below.refl P w5) OP'.out g6 (Nat.le_refl _) hPw')); clear o6 g6; have q1 : w6.cell? ⟨b, off + k * 2 + 1, none⟩ = some (.int .i64 gn) := Q1.out w6 OG6.out))
            go_roundg (G.length - (k + 1))
            case measure => omega
            case rel =>
              refine ⟨k + 1, by omega, rfl, ?_, by go_num, vr', .slice a6 (S.length + 1) c6, by unfold PObj; rw [obj_set OB6.out]; rfl, ?_, ?_, own_obj OG6.out OB6.out (by decide), B6.out.setCell (p := ⟨P, 1, none⟩) (Nat.le_refl P) _⟩
              · rw [HPS.out]
              · rw [HR1.out]; exact own_obj OR6.out OB6.out (by decide)
              · rw [HP1.out]; exact own_obj O6.out OB6.out (by decide)
      · obtain rfl : k = G.length := by omega
        have er : (runesR G).take G.length = runesR G := by rw [List.take_of_length_le (by rw [runesR_len]; exact Nat.le_refl _)]
        have ep : (placesR G).take (G.length + 1) = placesR G := by rw [List.take_of_length_le (by rw [placesR_len]; exact Nat.le_refl _)]
        have hp1 := placesR_take G (Nat.le_refl G.length)
        rw [ep] at hp1
        rw [er] at orr
        have lp : ((placesR G).take G.length).length = G.length := by rw [List.length_take, placesR_len]; omega
        have HP1 := Lib.hid hp1
        generalize (placesR G).take G.length = S at op lp HP1
        clear hp1 er ep
        have lr : (runesR G).length = G.length := runesR_len
        obtain ⟨ra, rc, rfl, -, -⟩ := orr.rd
        have OB := Lib.hid ob
        have OR := Lib.hid orr
        have OP := Lib.hid op
        have BL := Lib.hid bl
        have LR := Lib.hid lr
        have hPl := heap_lt ob
        have hPw : P ≤ wr.heap.size := Nat.le_of_lt hPl
        have c1 := cell_of_obj (o := 1) (u := vp) ob rfl
        have hlp : S.length < 1000000000 := by omega
        have LP := Lib.hid lp
        have NPO : Hid (vp.ownBlock ≠ some P) := Lib.hid (own_ne op ob (by decide))
        have ARP : Hid (Apart (.slice ra (runesR G).length rc) vp) := Lib.hid (own_apart orr op (by decide))
        clear ob orr op og bl lr lp
        generalize hat : syn.place G G.length = at0 at HP1 pb ⊢
        clear hat
        have hi0 : ¬ (G.length : Int) < (G.length : Int) := by omega
        go_upto_region 15 with (at_builtin; go_must (refine wpList_app1 (w := wr) (v := vp) elem_i rfl rfl rfl rfl (by simp) OP.out at0 rfl eI_len eI_one hlp (by omega) hPw ?_; intro v6 w6 o6 g6; have OB6 : Hid (PObj w6 P (.slice ra (runesR G).length rc) vp) := Lib.hid ((g6.block P (by simp; omega) (fun e => NPO.out e.symm)).trans ((Below.heap_alloc _ _ P hPl).trans OB.out)); have k6 := cell_of_obj (o := 1) (u := vp) OB6.out rfl; have z6 := frozen_of_obj (o := 1) OB6.out; obtain ⟨a6, c6, rfl, -, -⟩ := o6.rd; have O6 : Hid (OwnI P w6 (.slice a6 (S.length + 1) c6) (S ++ [at0])) := Lib.hid (by simpa using o6); have OR6 : Hid (OwnR32 P w6 (.slice ra (runesR G).length rc) (runesR G)) := Lib.hid ((OR.out.alloc _).keep g6 ARP.out); have B6 := Lib.hid (BL.out.trans (grow_below (Below.refl P wr) OP.out g6 (Nat.le_refl _) hPw)); clear o6 g6))
        have ob7 : PObj (w6.setCell ⟨P, 1, none⟩ (.slice a6 (S.length + 1) c6)) P (.slice ra (runesR G).length rc) (.slice a6 (S.length + 1) c6) := by unfold PObj; rw [obj_set OB6.out]; rfl
        have OR7 := Lib.hid (own_obj (o := 1) (u := .slice a6 (S.length + 1) c6) OR6.out OB6.out (by decide))
        have O7 := Lib.hid (own_obj (o := 1) (u := .slice a6 (S.length + 1) c6) O6.out OB6.out (by decide))
        have B7 := Lib.hid (B6.out.setCell (p := ⟨P, 1, none⟩) (Nat.le_refl P) (.slice a6 (S.length + 1) c6))
        have OB7 := Lib.hid ob7
        clear k6 z6 ob7 OB6 OR6 O6 B6 OB OR OP BL NPO ARP c1
        generalize w6.setCell ⟨P, 1, none⟩ (.slice a6 (S.length + 1) c6) = w7 at OB7 OR7 O7 B7 ⊢
        rw [← HP1.out] at O7
        have hlr := LR.out
        have hlp1 : S.length + 1 = G.length + 1 := by have := LP.out; omega
        obtain ⟨a1, c1, ev, rdr, hr1⟩ := OR7.out.rd
        simp only [Value.slice.injEq] at ev
        obtain ⟨rfl, -, rfl⟩ := ev
        obtain ⟨a1, c1, ev, rdp, hp1⟩ := O7.out.rd
        simp only [Value.slice.injEq] at ev
        obtain ⟨rfl, -, rfl⟩ := ev
        have hP7 := heap_lt OB7.out
        have pz : Qz ⟨P, G, ra, rc, a6, c6, w7.heap.size⟩ w7 ps0 := by
          refine ⟨?_, rdr, rdp, fun ad e => ?_, fun ad e => ?_, Nat.zero_le _, hG120, by decide, Nat.le_refl _, hP7, fun ad e => ?_, fun ad e => ?_⟩
          · have := OB7.out
            unfold PObj at this
            rw [this, hlr, hlp1]
            rfl
          · intro e'
            subst e
            exact own_ne OR7.out OB7.out (by decide) (by show some ad.block = some P; rw [e'])
          · intro e'
            subst e
            exact own_ne O7.out OB7.out (by decide) (by show some ad.block = some P; rw [e'])
          · subst e; exact (OR7.out.lt ad.block rfl).2
          · subst e; exact (O7.out.lt ad.block rfl).2
        have PZ := Lib.hid pz
        have AC := Lib.hid (altR_all ⟨P, G, ra, rc, a6, c6, w7.heap.size⟩ HPOS.out 21 0 rfl (by decide) ps0 w7 pz (Nat.zero_le _) rfl)
        clear pz rdr rdp hlp1 hlr hr1 hp1
        go_wp2_with fail
        refine AC.out.mono ?_
        rintro e w3 ⟨xv, rfl, p3, k3, nd3⟩
        have hwP : w.heap.size ≤ P := by rw [HP.out]; exact Nat.le_refl _
        have hwr : w.heap.size ≤ w7.heap.size := by omega
        have BR := Lib.hid ((B7.out.mono hwP).trans (Kp.toBelow k3 hwP hwr))
        have ND := Lib.hid (nd3.mono hwr)
        have P3 := Lib.hid p3
        have PG := Lib.hid (rParse2 G)
        clear p3 k3 nd3 PZ AC PB HGX OB7 OR7 O7 B7
        generalize rAlt G 21 0 ps0 = a at P3 ND PG
        obtain ⟨t, ls⟩ := a
        simp only at P3 ND PG
        have c0 := P3.out.c0
        have c2 := P3.out.c2
        have c4 := P3.out.c4
        have c5 := P3.out.c5
        simp only at c0 c2 c4 c5
        by_cases he : t.err = 0
        · rw [he] at c4
          by_cases hi : t.i < G.length
          · have i3 : (t.i : Int) < (G.length : Int) := by omega
            have e1 := PG.out
            rw [parse2_rest he hi] at e1
            have E1 := Lib.hid e1
            have W := Lib.hid (fun n => failRC (P3.out.drewN n) t.i 4)
            have HC := Lib.hid (fun n => hereRC (P3.out.drewN n) (Nat.le_of_lt hi))
            have HE := Lib.hid he
            clear e1 he PG
            go_wp2_with fail
            go_quiet (fail)
            go_wp2_with fail
            refine (HC.out _).mono ?_
            rintro e w4 ⟨rfl, n4, rfl⟩
            go_wp2_with fail
            refine (W.out _).mono ?_
            rintro e w5 ⟨rfl, p4, k4⟩
            rw [Ps.wrong, if_pos HE.out] at p4
            have c4' := p4.c4
            have c5' := p4.c5
            simp only at c4' c5'
            have B4 := Lib.hid (BR.out.trans (Kp.toBelow ((Kp.below (P := P) (drewN_below (Below.refl w3.heap.size w3) _)).trans k4) hwP BR.out.size))
            clear p4 k4
            generalize syn.place G t.i = pl at c5' E1
            go_wp2_with fail
            go_quiet (fail)
            go_wp2_with fail
            go_ret3
            rw [HALL.out, E1.out]
            exact ⟨_, rfl, Nds.nil _ _, B4.out.trans (drewN_below (Below.refl _ _) _)⟩
          · have i3 : ¬ (t.i : Int) < (G.length : Int) := by omega
            have e1 := PG.out
            rw [parse2_ok he hi] at e1
            have E1 := Lib.hid e1
            clear e1 he PG
            go_wp2_with fail
            go_quiet (fail)
            have c4' : (w3.drewN nq).cell? ⟨P, 4, none⟩ = some (.int .i64 0) := c4
            go_wp2_with fail
            go_ret3
            rw [HALL.out, E1.out]
            exact ⟨_, rfl, ND.out.kept (drewN_below (Below.refl _ _) _), BR.out.trans (drewN_below (Below.refl _ _) _)⟩
        · have he' : (t.err == 0) = false := by simpa using he
          have he'' : (t.err != 0) = true := by simpa using he
          have e1 := PG.out
          rw [parse2_err he] at e1
          have E1 := Lib.hid e1
          clear e1 he PG
          generalize t.err = er at c4 he' he'' E1
          generalize t.wh = wh at c5 E1
          go_wp2_with fail
          go_quiet (fail)
          go_wp2_with fail
          go_quiet (fail)
          go_wp2_with fail
          go_ret3
          rw [HALL.out, E1.out]
          exact ⟨_, rfl, Nds.nil _ _, (BR.out.trans (drewN_below (Below.refl _ _) _)).trans (drewN_below (Below.refl _ _) _)⟩
end Go.Proofs.YtooockbfagkknaaGreatDoor.syn
