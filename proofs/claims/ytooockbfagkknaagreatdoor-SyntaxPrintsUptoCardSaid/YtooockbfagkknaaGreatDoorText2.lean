/- text, walked. -/
import Derived.Test.YtooockbfagkknaaGreatDoorText
import Derived.Test.YtooockbfagkknaaGreatDoorBck
namespace Go.Proofs.YtooockbfagkknaaGreatDoor.syn
open Go.RowKit Go.Proofs.YtooockbfagkknaaGreatDoor.sl Go.Proofs.YtooockbfagkknaaGreatDoor.cls
section
variable {W : World} {P : Nat} {la : Option Addr} {lc : Nat} {ls : List NdV}
theorem alloc_below {a w : World} (h : Below a.heap.size a w) (o : Obj) : Below a.heap.size a (w.alloc o) := h.alloc h.size _
set_option maxHeartbeats 8000000 in
set_option maxRecDepth 100000 in
theorem textC (N : Nrd W la lc ls) (hP : W.heap.size ≤ P) (hlen : ls.length ≤ 480) (hTab : Tab W) {n : Nat} (KC : KidC W P la lc ls n) : TextC W P la lc ls (n + 1) := by
  intro a b g w hw ob hb
  have hbd := rWalk_bd _ _ _ _ hw
  rw [List.length_map] at hbd
  have hlt : a < ls.length := by omega
  obtain ⟨y, hy⟩ : ∃ y, ls[a]? = some y := ⟨_, List.getElem?_eq_getElem hlt⟩
  have hgd : (ls.map NdV.x).getD a (nd 0) = y.x := by simp [List.getD_eq_getElem?_getD, hy]
  have htl := text_len (ls.map NdV.x) (fun x hx => by obtain ⟨z, hz, rfl⟩ := List.mem_map.1 hx; exact (N.each z hz).2.2.1) (n + 1) a b hw
  have hz : (textR (ls.map NdV.x) (n + 1) a).1.length ≤ 10000000000 := by
    have : b - a ≤ 480 := by omega
    have : 20000000 * (b - a) ≤ 20000000 * 480 := Nat.mul_le_mul_left _ this
    omega
  have hw2 := hw
  rw [rWalk, if_neg (by simp; omega), hgd] at hw2
  obtain ⟨kk, hk⟩ : ∃ k, shapeR y.x = some k := by
    split at hw2
    · cases hw2
    · rename_i k hk; exact ⟨k, hk⟩
  rw [hk] at hw2
  simp only at hw2
  have hs := shape_sh hk
  suffices key : ∀ t, (textR (ls.map NdV.x) (n + 1) a).1 = t → Calls Tryz.prog 27 #[.pointer (some ⟨P, 0, none⟩)] w (TxPost P la lc ls.length w t b g) from key _ rfl
  intro t ht
  rw [ht] at hz
  rw [textR, hgd] at ht
  have YE := Lib.hid (N.each y (List.mem_of_getElem? hy))
  have c0 := cell_of_obj (o := 0) (u := .slice la ls.length lc) ob rfl
  have c1 := cell_of_obj (o := 1) (u := .int .i64 a) ob rfl
  have i2 : (a : Int) < (ls.length : Int) := by omega
  obtain ⟨bb, off, rfl, hbl, hc⟩ := (N.kept hb).rd.cells eN_len hy
  have q0 := hc 0 (.int .i64 y.x.op) (by omega) rfl
  have q1 := hc 1 (.slice y.a y.n y.c) (by omega) rfl
  have q2 := hc 2 (.int .i64 y.x.mn) (by omega) rfl
  have q3 := hc 3 (.int .i64 y.x.mx) (by omega) rfl
  have q4 := hc 4 (.bool y.x.lz) (by omega) rfl
  have q5 := hc 5 (.int .i64 y.x.cap) (by omega) rfl
  have q6 := hc 6 (.int .i64 y.x.kids) (by omega) rfl
  simp only [Nat.add_zero] at q0
  simp only [← Nat.add_assoc] at q1 q2 q3 q4 q5 q6
  have HT := Lib.hid ht
  have HW := Lib.hid hw2
  have HS := Lib.hid hs
  have OB := Lib.hid ob
  have B := Lib.hid hb
  clear ht hw hw2 hs hk ob hb hc hy hgd htl
  go_enter Tryz.func27, Tryz.ntmps27
  go_upto_region 1 with fail
  go_region_held3 (fun w' => w'.cell? ⟨P, 0, none⟩ = some (.slice (some ⟨bb, off, none⟩) ls.length lc) ∧ w'.cell? ⟨P, 1, none⟩ = some (.int .i64 a) ∧ w'.cell? ⟨bb, off + a * 7, none⟩ = some (.int .i64 y.x.op) ∧ w'.cell? ⟨bb, off + a * 7 + 1, none⟩ = some (.slice y.a y.n y.c) ∧ w'.cell? ⟨bb, off + a * 7 + 2, none⟩ = some (.int .i64 y.x.mn) ∧ w'.cell? ⟨bb, off + a * 7 + 3, none⟩ = some (.int .i64 y.x.mx) ∧ w'.cell? ⟨bb, off + a * 7 + 4, none⟩ = some (.bool y.x.lz) ∧ w'.cell? ⟨bb, off + a * 7 + 5, none⟩ = some (.int .i64 y.x.cap) ∧ w'.cell? ⟨bb, off + a * 7 + 6, none⟩ = some (.int .i64 y.x.kids)) (first | exact ⟨c0, c1, q0, q1, q2, q3, q4, q5, q6⟩ | go_keep) (first | fail)
  have OBh := OB.out
  have OB3 := Lib.hid (copied_old OB.out y)
  have B3 := Lib.hid (copied_below B.out B.out.size y)
  have K3 := Lib.hid (Kp.below (P := P) (copied_below (Below.refl w.heap.size w) (Nat.le_refl _) y))
  have NB3 := Lib.hid (copied_new w y)
  clear OB B c0 c1 q0 q1 q2 q3 q4 q5 q6
  have hPN : P < w.heap.size := heap_lt OBh
  clear OBh
  generalize hNb : w.heap.size = Nb at NB3 hPN ⊢
  have HNb := Lib.hid hNb
  clear hNb
  generalize (w.alloc (ncell y)).drew = w3 at OB3 B3 K3 NB3 ⊢
  have c1 := cell_of_obj (o := 1) (u := .int .i64 a) OB3.out rfl
  have f1 : w3.frozen? ⟨P, 1, none⟩ = false := frozen_of_obj OB3.out
  go_upto_region 3 with fail
  have OB5 : Hid ((w3.setCell ⟨P, 1, none⟩ (.int .i64 ((a : Int) + 1))).heap[P]? = some (wkO (some ⟨bb, off, none⟩) ls.length lc (a + 1 : Nat) g)) := Lib.hid (obj_set OB3.out)
  have B5 := Lib.hid (B3.out.setCell (p := ⟨P, 1, none⟩) hP (.int .i64 ((a : Int) + 1)))
  have K5 := Lib.hid (K3.out.trans (Kp.set P 1 w3 (.int .i64 ((a : Int) + 1))))
  have NB5 := Lib.hid ((Below.heap_setCell w3 ⟨P, 1, none⟩ (.int .i64 ((a : Int) + 1)) Nb (by simp; omega)).trans NB3.out)
  clear OB3 B3 K3 NB3 c1 f1
  generalize w3.setCell ⟨P, 1, none⟩ (.int .i64 ((a : Int) + 1)) = w5 at OB5 B5 K5 NB5 ⊢
  have d0 := cell_of_obj (o := 0) (u := .int .i64 y.x.op) NB5.out rfl
  have d1 := cell_of_obj (o := 1) (u := .slice y.a y.n y.c) NB5.out rfl
  have d6 := cell_of_obj (o := 6) (u := .int .i64 y.x.kids) NB5.out rfl
  have d2 := cell_of_obj (o := 2) (u := .int .i64 y.x.mn) NB5.out rfl
  have d3 := cell_of_obj (o := 3) (u := .int .i64 y.x.mx) NB5.out rfl
  have d4 := cell_of_obj (o := 4) (u := .bool y.x.lz) NB5.out rfl
  have d5 := cell_of_obj (o := 5) (u := .int .i64 y.x.cap) NB5.out rfl
  have hNP : Nb ≠ P := by omega
  have hs := HS.out
  clear HS
  cases hs with
  | leaf ho e hk0 =>
    clear d1 d2 d3 d4 d5 d6 e
    subst hk0
    have e1 := HT.out
    have e2 : a + 1 = b := by have := HW.out; simpa [rKids] using this
    subst e2
    rw [if_neg (by omega)] at e1
    rcases ho with ho | ho | ho
    · rw [if_neg (by omega), if_neg (by omega), if_neg (by omega), if_neg (by omega), if_neg (by omega)] at e1
      rw [ho] at d0
      have E1 := Lib.hid e1
      clear e1 HT ho HW
      go_wp2_with fail
      go_ret
      exact ⟨by rw [← E1.out]; rfl, OB5.out, K5.out⟩
    · rw [if_pos ho] at e1
      rw [ho] at d0
      have E1 := Lib.hid e1
      clear e1 HT ho HW
      go_wp2_with fail
      go_ret
      exact ⟨by rw [← E1.out]; rfl, OB5.out, K5.out⟩
    · rw [if_neg (by omega), if_pos ho] at e1
      rw [ho] at d0
      have E1 := Lib.hid e1
      clear e1 HT ho HW
      go_wp2_with fail
      go_ret
      exact ⟨by rw [← E1.out]; rfl, OB5.out, K5.out⟩
  | cls e hg hk0 =>
    subst hk0
    have ho : y.x.op = 2 := by rw [e]; rfl
    have e1 := HT.out
    have e2 : a + 1 = b := by have := HW.out; simpa [rKids] using this
    subst e2
    rw [if_pos ho] at e1
    rw [ho] at d0
    rw [YE.out.1] at d1
    have E1 := Lib.hid e1
    have CC := Lib.hid (classedC y.a y.x.r y.c w5 (YE.out.2.1.kept B5.out) (by have := YE.out.2.2.1; omega))
    clear e1 HT ho HW e hg d2 d3 d4 d5 d6
    go_wp2_with fail
    refine CC.out.mono ?_
    rintro e w6 ⟨rfl, b6⟩
    have B6 := Lib.hid b6
    clear b6 CC
    go_wp2_with fail
    go_ret
    exact ⟨by rw [← E1.out]; rfl, (B6.out.block P (heap_lt OB5.out)).trans OB5.out, K5.out.trans (Kp.below B6.out)⟩
  | rep e h1 h2 h3 hk0 =>
    subst hk0
    have ho : y.x.op = 5 := by rw [e]; rfl
    have e1 := HT.out
    have hw' : rKids (rWalk (ls.map NdV.x) n) 1 (a + 1) = some b := HW.out
    rw [rKids] at hw'
    split at hw'
    · cases hw'
    rename_i c hcw
    have hcb : c = b := by simpa [rKids] using hw'
    subst hcb
    rw [if_neg (by omega), if_neg (by omega), if_neg (by omega), if_pos ho] at e1
    have E1 := Lib.hid e1
    have KK := Lib.hid (fun w' (q : w'.heap[P]? = some (wkO (some ⟨bb, off, none⟩) ls.length lc (a + 1 : Nat) g)) (r : Below W.heap.size W w') => KC 5 (a + 1) c g w' hcw q r)
    have SC : Hid (∀ w', Below W.heap.size W w' → Calls Tryz.prog 41 #[.agg #[.int .i64 5, .slice y.a y.n y.c, .int .i64 y.x.mn, .int .i64 y.x.mx, .bool y.x.lz, .int .i64 y.x.cap, .int .i64 y.x.kids]] w' fun e w2 => e = .returned (.string (bsR (sizesR y.x))) ∧ Below w'.heap.size w' w2) := Lib.hid (fun w' q => by
      have := sizesC y h1 h2 h3 w' (hTab.kept q)
      simp only [agN, ho] at this
      exact this)
    have hzs : (bsR (sizesR y.x)).size ≤ 48 := by have := bsR_size (sizesR y.x); have := sizes_len y.x; omega
    have hzk : (bsR (kidR (ls.map NdV.x) (textR (ls.map NdV.x) n) 5 (a + 1)).1).size ≤ 40000000000 := by
      have h5 := bsR_size (kidR (ls.map NdV.x) (textR (ls.map NdV.x) n) 5 (a + 1)).1
      have h6 := congrArg List.length e1
      simp only [List.length_append] at h6
      omega
    rw [ho] at d0
    clear e1 HT HW hw' e hcw
    generalize (kidR (ls.map NdV.x) (textR (ls.map NdV.x) n) 5 (a + 1)).1 = tk at KK E1 hzk
    go_wp2_with fail
    go_region_with (first | (go_at_call 40; refine (KK.out w5.drew OB5.out (below_drew B5.out)).mono ?_; rintro e w6 ⟨rfl, o6, k6⟩; have NB6 := (k6.block Nb (heap_lt NB5.out) (by intro e; cases e; exact hNP rfl)).trans NB5.out; have B6 := kp_below (below_drew B5.out) k6 hP; have e0 := cell_of_obj (o := 0) (u := .int .i64 5) (by rw [NB6, ncell, ho]) rfl; have e1 := cell_of_obj (o := 1) (u := .slice y.a y.n y.c) NB6 rfl; have e2 := cell_of_obj (o := 2) (u := .int .i64 y.x.mn) NB6 rfl; have e3 := cell_of_obj (o := 3) (u := .int .i64 y.x.mx) NB6 rfl; have e4 := cell_of_obj (o := 4) (u := .bool y.x.lz) NB6 rfl; have e5 := cell_of_obj (o := 5) (u := .int .i64 y.x.cap) NB6 rfl; have e6 := cell_of_obj (o := 6) (u := .int .i64 y.x.kids) NB6 rfl) | (go_at_call 41; refine (SC.out w6 B6).mono ?_; rintro e w7 ⟨rfl, b7⟩; have NB7 := (b7.block Nb (heap_lt NB6)).trans NB6; have g0 := cell_of_obj (o := 0) (u := .int .i64 5) (by rw [NB7, ncell, ho]) rfl; have g1 := cell_of_obj (o := 1) (u := .slice y.a y.n y.c) NB7 rfl; have g2 := cell_of_obj (o := 2) (u := .int .i64 y.x.mn) NB7 rfl; have g3 := cell_of_obj (o := 3) (u := .int .i64 y.x.mx) NB7 rfl; have g4 := cell_of_obj (o := 4) (u := .bool y.x.lz) NB7 rfl; have g5 := cell_of_obj (o := 5) (u := .int .i64 y.x.cap) NB7 rfl; have g6 := cell_of_obj (o := 6) (u := .int .i64 y.x.kids) NB7 rfl))
    all_goals (go_wp2_with fail)
    all_goals go_ret
    all_goals exact ⟨by rw [← E1.out, bsR_app]; rfl, (b7.block P (heap_lt o6)).trans o6, K5.out.trans ((Kp.below (below_drew (Below.refl _ _))).trans (k6.trans (Kp.below b7)))⟩
  | grp e h1 h2 hk0 =>
    subst hk0
    have ho : y.x.op = 6 := by rw [e]; rfl
    have e1 := HT.out
    have hw' : rKids (rWalk (ls.map NdV.x) n) 1 (a + 1) = some b := HW.out
    rw [rKids] at hw'
    split at hw'
    · cases hw'
    rename_i c hcw
    have hcb : c = b := by simpa [rKids] using hw'
    subst hcb
    rw [if_neg (by omega), if_neg (by omega), if_neg (by omega), if_neg (by omega), if_pos ho] at e1
    have E1 := Lib.hid e1
    have KK := Lib.hid (KC 6 (a + 1) c g w5 hcw OB5.out B5.out)
    have hzk : (bsR (kidR (ls.map NdV.x) (textR (ls.map NdV.x) n) 6 (a + 1)).1).size ≤ 40000000000 := by
      have h5 := bsR_size (kidR (ls.map NdV.x) (textR (ls.map NdV.x) n) 6 (a + 1)).1
      have h6 := congrArg List.length e1
      simp only [List.length_append] at h6
      omega
    rw [ho] at d0
    clear e1 HT HW hw' e hcw d1 d2 d3 d4 d5 d6 ho
    generalize (kidR (ls.map NdV.x) (textR (ls.map NdV.x) n) 6 (a + 1)).1 = tk at KK E1 hzk
    go_wp2_with fail
    refine KK.out.mono ?_
    rintro e w6 ⟨rfl, o6, k6⟩
    have O6 := Lib.hid o6
    have K6 := Lib.hid k6
    clear o6 k6 KK
    generalize hsk : bsR tk = sk at hzk ⊢
    have HSK := Lib.hid hsk
    clear hsk
    go_wp2_with fail
    go_ret
    refine ⟨?_, O6.out, K5.out.trans K6.out⟩
    rw [← E1.out, bsR_app, bsR_app, HSK.out]
    rfl
  | many hop e h2 hk0 =>
    subst hk0
    obtain ⟨m, hm⟩ : ∃ m : Nat, y.x.kids = (m : Int) + 1 := ⟨(y.x.kids - 1).toNat, by omega⟩
    have hmn : y.x.kids.toNat = m + 1 := by omega
    have hmn2 : (y.x.kids - 1).toNat = m := by omega
    have e1 := HT.out
    have hw' := HW.out
    rw [hmn, rKids] at hw'
    split at hw'
    · cases hw'
    rename_i c hcw
    have hm1 : m ≤ 1000000 := by
      have hb1 := rWalk_bd _ _ _ _ hcw
      have hb2 := rKids_bd _ (rWalk_bd _ n) _ _ _ hb1.2 hw'
      have hkk : ∀ (k c b : Nat), rKids (rWalk (ls.map NdV.x) n) k c = some b → c + k ≤ b := by
        intro k
        induction k with
        | zero => intro c b h; have : c = b := by simpa [rKids] using h
                  omega
        | succ k ih =>
          intro c b h
          rw [rKids] at h
          split at h
          · cases h
          · rename_i d hd
            have := (rWalk_bd _ _ _ _ hd).1
            have := ih d b h
            omega
      have := hkk m c b hw'
      omega
    have hk2 : ∀ over, (kidR (ls.map NdV.x) (textR (ls.map NdV.x) n) over (a + 1)).2 = c := fun over => text_end _ n (a + 1) c hcw
    rw [if_neg (by omega), if_neg (by omega), if_neg (by omega), if_neg (by omega), if_neg (by omega), if_pos hop] at e1
    simp only [hk2, hmn2] at e1
    rw [hm] at d6
    clear HT HW hmn hmn2 d1 d2 d3 d4 d5 e
    rcases hop with ho | ho
    · rw [ho, if_neg (by decide)] at e1
      rw [ho] at d0
      have E1 := Lib.hid e1
      have KK := Lib.hid (KC 3 (a + 1) c g w5 hcw OB5.out B5.out)
      have HC := Lib.hid hw'
      have hzk : (bsR (kidR (ls.map NdV.x) (textR (ls.map NdV.x) n) 3 (a + 1)).1).size ≤ 40000000000 := by
        have h5 := bsR_size (kidR (ls.map NdV.x) (textR (ls.map NdV.x) n) 3 (a + 1)).1
        have h6 := congrArg List.length e1
        simp only [List.length_append] at h6
        omega
      have im : ((m : Int) + 1) - 1 = (m : Int) := by omega
      have HO := Lib.hid ho
      clear e1 hw' hcw ho hk2
      go_wp2_with fail
      refine KK.out.mono ?_
      rintro e w6 ⟨rfl, o6, k6⟩
      have NB6 := Lib.hid ((k6.block Nb (heap_lt NB5.out) (by intro e; cases e; exact hNP rfl)).trans NB5.out)
      have B6 := Lib.hid (kp_below B5.out k6 hP)
      have O6 := Lib.hid o6
      have K6 := Lib.hid (K5.out.trans k6)
      clear o6 k6 KK OB5 B5 K5 NB5 d0 d6
      generalize hkt : (kidR (ls.map NdV.x) (textR (ls.map NdV.x) n) 3 (a + 1)).1 = tk at E1 hzk ⊢
      clear hkt
      generalize hsk : bsR tk = sk at hzk ⊢
      have HSK := Lib.hid hsk
      clear hsk
      have d6 : w6.cell? ⟨Nb, 6, none⟩ = some (.int .i64 ((m : Int) + 1)) := by rw [← hm]; exact cell_of_obj (o := 6) (u := .int .i64 y.x.kids) NB6.out rfl
      have HM := Lib.hid hm
      clear hm
      have hpre : t.length ≤ 10000000000 := hz
      go_wp2_with fail
      go_loopg [4, 60] m (fun gh o i wr => ∃ (j : Nat) (pre : List Int) (a2 : Nat) (s : ByteArray), j ≤ m ∧ gh = m - j ∧ i = .int .i64 j ∧ o = .string s ∧ s = bsR pre ∧ pre ++ (kidsR (kidR (ls.map NdV.x) (textR (ls.map NdV.x) n) 3) [] (m - j) a2).1 = t ∧ rKids (rWalk (ls.map NdV.x) n) (m - j) a2 = some b ∧ s.size ≤ 40000000000 ∧ wr.heap[P]? = some (wkO (some ⟨bb, off, none⟩) ls.length lc a2 g) ∧ wr.heap[Nb]? = some (ncell y) ∧ Below W.heap.size W wr ∧ Kp P w wr)
      case atStart => exact ⟨0, tk, c, sk, Nat.zero_le _, rfl, rfl, rfl, HSK.out.symm, E1.out, HC.out, hzk, O6.out, NB6.out, B6.out, K6.out⟩
      case round =>
        clear E1 HC O6 NB6 B6 K6 HSK hzk d6
        obtain ⟨j, pre, a2, s, hj, rfl, rfl, rfl, hs, htt, hrk, hzs, o7, nb7, b7, k7⟩ := hrel
        have HS := Lib.hid hs
        have TT := Lib.hid htt
        have RK := Lib.hid hrk
        have O7 := Lib.hid o7
        have NB7 := Lib.hid nb7
        have B7 := Lib.hid b7
        have K7 := Lib.hid k7
        clear hs htt hrk o7 nb7 b7 k7
        have d0 : wr.cell? ⟨Nb, 0, none⟩ = some (.int .i64 3) := by rw [← HO.out]; exact cell_of_obj (o := 0) (u := .int .i64 y.x.op) NB7.out rfl
        by_cases hlt : j < m
        · have i1 : (j : Int) < (m : Int) := by omega
          obtain ⟨q, hq⟩ : ∃ q, m - j = q + 1 := ⟨m - j - 1, by omega⟩
          have hrk := RK.out
          have htt := TT.out
          rw [hq, rKids] at hrk
          rw [hq, kidsR] at htt
          split at hrk
          · cases hrk
          rename_i c2 hc2
          have hk3 : (kidR (ls.map NdV.x) (textR (ls.map NdV.x) n) 3 a2).2 = c2 := text_end _ n a2 c2 hc2
          rw [hk3] at htt
          have KK := Lib.hid (KC 3 a2 c2 g wr hc2 O7.out B7.out)
          have hl := congrArg List.length htt
          simp only [List.length_append] at hl
          have hz2 := bsR_size (kidR (ls.map NdV.x) (textR (ls.map NdV.x) n) 3 a2).1
          have hzp := bsR_size pre
          have hps : s.size = (bsR pre).size := by rw [HS.out]
          generalize (kidR (ls.map NdV.x) (textR (ls.map NdV.x) n) 3 a2).1 = tk2 at htt KK hl hz2
          generalize hsk : bsR tk2 = sk2 at hz2 KK
          have HSK := Lib.hid hsk
          have TT2 := Lib.hid htt
          have RK2 := Lib.hid hrk
          have hz3 : s.size + 1 + sk2.size ≤ 80000000000 := by omega
          clear hsk htt hrk hk3 hc2 TT RK
          go_wp2_with fail
          refine KK.out.mono ?_
          rintro e w8 ⟨rfl, o8, k8⟩
          have NB8 := Lib.hid ((k8.block Nb (heap_lt NB7.out) (by intro e; cases e; exact hNP rfl)).trans NB7.out)
          have B8 := Lib.hid (kp_below B7.out k8 hP)
          have O8 := Lib.hid o8
          have K8 := Lib.hid (K7.out.trans k8)
          clear o8 k8 KK O7 B7 K7 NB7
          rw [HSK.out]
          go_wp2_with fail
          go_roundg (m - (j + 1))
          case measure => omega
          case rel =>
            have hq2 : m - (j + 1) = q := by omega
            refine ⟨j + 1, pre ++ tk2, c2, s ++ sk2, by omega, rfl, by go_num, rfl, ?_, ?_, by rw [hq2]; exact RK2.out, ?_, O8.out, NB8.out, B8.out, K8.out⟩
            · rw [bsR_app, ← HS.out, HSK.out]
            · rw [hq2, ← TT2.out]
              simp
            · have e9 : (s ++ sk2).size ≤ 4 * (pre ++ tk2).length := by rw [HS.out, ← HSK.out, ← bsR_app]; exact bsR_size _
              rw [List.length_append] at e9
              omega
        · obtain rfl : j = m := by omega
          have i1 : ¬ (j : Int) < (j : Int) := by omega
          go_wp2_with fail
          go_ret
          have htt := TT.out
          have hrk := RK.out
          rw [Nat.sub_self] at htt hrk
          have e3 : a2 = b := by simpa [rKids] using hrk
          subst e3
          rw [kidsR, List.append_nil] at htt
          exact ⟨by rw [← htt, ← HS.out]; rfl, O7.out, K7.out⟩
    · rw [ho, if_pos rfl] at e1
      rw [ho] at d0
      have E1 := Lib.hid e1
      have KK := Lib.hid (KC 4 (a + 1) c g w5 hcw OB5.out B5.out)
      have HC := Lib.hid hw'
      have hzk : (bsR (kidR (ls.map NdV.x) (textR (ls.map NdV.x) n) 4 (a + 1)).1).size ≤ 40000000000 := by
        have h5 := bsR_size (kidR (ls.map NdV.x) (textR (ls.map NdV.x) n) 4 (a + 1)).1
        have h6 := congrArg List.length e1
        simp only [List.length_append] at h6
        omega
      have im : ((m : Int) + 1) - 1 = (m : Int) := by omega
      have HO := Lib.hid ho
      clear e1 hw' hcw ho hk2
      go_wp2_with fail
      refine KK.out.mono ?_
      rintro e w6 ⟨rfl, o6, k6⟩
      have NB6 := Lib.hid ((k6.block Nb (heap_lt NB5.out) (by intro e; cases e; exact hNP rfl)).trans NB5.out)
      have B6 := Lib.hid (kp_below B5.out k6 hP)
      have O6 := Lib.hid o6
      have K6 := Lib.hid (K5.out.trans k6)
      clear o6 k6 KK OB5 B5 K5 NB5 d0 d6
      generalize hkt : (kidR (ls.map NdV.x) (textR (ls.map NdV.x) n) 4 (a + 1)).1 = tk at E1 hzk ⊢
      clear hkt
      generalize hsk : bsR tk = sk at hzk ⊢
      have HSK := Lib.hid hsk
      clear hsk
      have d6 : w6.cell? ⟨Nb, 6, none⟩ = some (.int .i64 ((m : Int) + 1)) := by rw [← hm]; exact cell_of_obj (o := 6) (u := .int .i64 y.x.kids) NB6.out rfl
      have HM := Lib.hid hm
      clear hm
      have hpre : t.length ≤ 10000000000 := hz
      go_wp2_with fail
      go_loopg [4, 60] m (fun gh o i wr => ∃ (j : Nat) (pre : List Int) (a2 : Nat) (s : ByteArray), j ≤ m ∧ gh = m - j ∧ i = .int .i64 j ∧ o = .string s ∧ s = bsR pre ∧ pre ++ (kidsR (kidR (ls.map NdV.x) (textR (ls.map NdV.x) n) 4) [124] (m - j) a2).1 = t ∧ rKids (rWalk (ls.map NdV.x) n) (m - j) a2 = some b ∧ s.size ≤ 40000000000 ∧ wr.heap[P]? = some (wkO (some ⟨bb, off, none⟩) ls.length lc a2 g) ∧ wr.heap[Nb]? = some (ncell y) ∧ Below W.heap.size W wr ∧ Kp P w wr)
      case atStart => exact ⟨0, tk, c, sk, Nat.zero_le _, rfl, rfl, rfl, HSK.out.symm, E1.out, HC.out, hzk, O6.out, NB6.out, B6.out, K6.out⟩
      case round =>
        clear E1 HC O6 NB6 B6 K6 HSK hzk d6
        obtain ⟨j, pre, a2, s, hj, rfl, rfl, rfl, hs, htt, hrk, hzs, o7, nb7, b7, k7⟩ := hrel
        have HS := Lib.hid hs
        have TT := Lib.hid htt
        have RK := Lib.hid hrk
        have O7 := Lib.hid o7
        have NB7 := Lib.hid nb7
        have B7 := Lib.hid b7
        have K7 := Lib.hid k7
        clear hs htt hrk o7 nb7 b7 k7
        have d0 : wr.cell? ⟨Nb, 0, none⟩ = some (.int .i64 4) := by rw [← HO.out]; exact cell_of_obj (o := 0) (u := .int .i64 y.x.op) NB7.out rfl
        by_cases hlt : j < m
        · have i1 : (j : Int) < (m : Int) := by omega
          obtain ⟨q, hq⟩ : ∃ q, m - j = q + 1 := ⟨m - j - 1, by omega⟩
          have hrk := RK.out
          have htt := TT.out
          rw [hq, rKids] at hrk
          rw [hq, kidsR] at htt
          split at hrk
          · cases hrk
          rename_i c2 hc2
          have hk3 : (kidR (ls.map NdV.x) (textR (ls.map NdV.x) n) 4 a2).2 = c2 := text_end _ n a2 c2 hc2
          rw [hk3] at htt
          have KK := Lib.hid (KC 4 a2 c2 g wr hc2 O7.out B7.out)
          have hl := congrArg List.length htt
          simp only [List.length_append] at hl
          have hz2 := bsR_size (kidR (ls.map NdV.x) (textR (ls.map NdV.x) n) 4 a2).1
          have hzp := bsR_size pre
          have hps : s.size = (bsR pre).size := by rw [HS.out]
          generalize (kidR (ls.map NdV.x) (textR (ls.map NdV.x) n) 4 a2).1 = tk2 at htt KK hl hz2
          generalize hsk : bsR tk2 = sk2 at hz2 KK
          have HSK := Lib.hid hsk
          have TT2 := Lib.hid htt
          have RK2 := Lib.hid hrk
          have hz3 : s.size + 1 + sk2.size ≤ 80000000000 := by omega
          clear hsk htt hrk hk3 hc2 TT RK
          go_wp2_with fail
          refine KK.out.mono ?_
          rintro e w8 ⟨rfl, o8, k8⟩
          have NB8 := Lib.hid ((k8.block Nb (heap_lt NB7.out) (by intro e; cases e; exact hNP rfl)).trans NB7.out)
          have B8 := Lib.hid (kp_below B7.out k8 hP)
          have O8 := Lib.hid o8
          have K8 := Lib.hid (K7.out.trans k8)
          clear o8 k8 KK O7 B7 K7 NB7
          rw [HSK.out]
          go_wp2_with fail
          go_roundg (m - (j + 1))
          case measure => omega
          case rel =>
            have hq2 : m - (j + 1) = q := by omega
            refine ⟨j + 1, pre ++ [124] ++ tk2, c2, s ++ ⟨#[124]⟩ ++ sk2, by omega, rfl, by go_num, rfl, ?_, ?_, by rw [hq2]; exact RK2.out, ?_, O8.out, NB8.out, B8.out, K8.out⟩
            · rw [bsR_app, bsR_app, ← HS.out, HSK.out]; rfl
            · rw [hq2, ← TT2.out]
              simp
            · have e9 : (s ++ ⟨#[124]⟩ ++ sk2).size ≤ 4 * (pre ++ [124] ++ tk2).length := by rw [HS.out, ← HSK.out, show (⟨#[124]⟩ : ByteArray) = bsR [124] from rfl, ← bsR_app, ← bsR_app]; exact bsR_size _
              simp only [List.length_append, List.length_cons, List.length_nil] at e9 hl
              omega
        · obtain rfl : j = m := by omega
          have i1 : ¬ (j : Int) < (j : Int) := by omega
          go_wp2_with fail
          go_ret
          have htt := TT.out
          have hrk := RK.out
          rw [Nat.sub_self] at htt hrk
          have e3 : a2 = b := by simpa [rKids] using hrk
          subst e3
          rw [kidsR, List.append_nil] at htt
          exact ⟨by rw [← htt, ← HS.out]; rfl, O7.out, K7.out⟩
end
end Go.Proofs.YtooockbfagkknaaGreatDoor.syn
