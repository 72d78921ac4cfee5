/- spoorref10: End, Right, Print. -/
import Derived.Test.YtooockbfagkknaaGreatDoorR11d
import Derived.Test.YtooockbfagkknaaGreatDoorR11
import Derived.Test.YtooockbfagkknaaGreatDoorKeep
import Derived.Test.YtooockbfagkknaaGreatDoorCopyN
import Derived.Test.YtooockbfagkknaaGreatDoorSynRuns
namespace Go.Proofs.YtooockbfagkknaaGreatDoor.syn
open Go.RowKit Go.Proofs.YtooockbfagkknaaGreatDoor.sl Go.Proofs.YtooockbfagkknaaGreatDoor.cls
section
variable {W : World} {la : Option Addr} {lc : Nat} {ls : List NdV}
set_option maxHeartbeats 4000000 in
theorem walk_zero (_N : Nrd W la lc ls) (hlen : ls.length ≤ 480) : WalkC W la lc ls 0 := by
  intro a dp w hdp ha hb
  have i1 : (240 : Int) < (dp : Int) := by omega
  show Calls Tryz.prog 37 #[.slice la ls.length lc, .int .i64 a, .int .i64 dp] w fun e w' => e = .returned (.int .i64 (-1)) ∧ Below w.heap.size w w'
  by_cases hal : ls.length ≤ a
  · have i2 : (ls.length : Int) ≤ (a : Int) := by omega
    go_enter Tryz.func37, Tryz.ntmps37
    go_wp2_with fail
    go_ret
    exact ⟨rfl, Below.refl _ _⟩
  · have i2 : (a : Int) < (ls.length : Int) := by omega
    go_enter Tryz.func37, Tryz.ntmps37
    go_wp2_with fail
    go_ret
    exact ⟨rfl, Below.refl _ _⟩
theorem walk_all (N : Nrd W la lc ls) (hlen : ls.length ≤ 480) : ∀ n, WalkC W la lc ls n
  | 0 => walk_zero N hlen
  | n + 1 => walkRC N hlen (walk_all N hlen n)
end
set_option maxHeartbeats 4000000 in
theorem endRC (la : Option Addr) (lc : Nat) (ls : List NdV) (w : World) (N : Nrd w la lc ls) (hlen : ls.length ≤ 480) : Calls Tryz.prog 25 #[.slice la ls.length lc, .int .i64 0] w fun e w' => e = .returned (.int .i64 (wEnd (rWalk (ls.map NdV.x) 241 0))) ∧ Below w.heap.size w w' := by
  have C := Lib.hid (walk_all N hlen 241 0 0 w rfl (by omega) (Below.refl _ _))
  clear N
  go_enter Tryz.func25, Tryz.ntmps25
  go_wp2_with fail
  refine C.out.mono ?_
  rintro e w1 ⟨rfl, b1⟩
  go_wp2_with fail
  go_ret
  exact ⟨rfl, b1⟩
theorem caps_drop {ls : List NdV} {k : Nat} {y : NdV} (h : ls[k]? = some y) (g : Nat) : capsGo ((ls.map NdV.x).drop k) g = if y.x.op = 6 then (if y.x.cap = (g : Int) + 1 then capsGo ((ls.map NdV.x).drop (k + 1)) (g + 1) else none) else capsGo ((ls.map NdV.x).drop (k + 1)) g := by
  have hk := lt_of_some h
  have e : (ls.map NdV.x).drop k = y.x :: (ls.map NdV.x).drop (k + 1) := by
    rw [List.drop_eq_getElem_cons (by simpa using hk)]
    congr 1
    rw [List.getElem_map]
    congr 1
    exact (List.getElem?_eq_some_iff.1 h).2
  rw [e, capsGo]
set_option maxHeartbeats 8000000 in
set_option maxRecDepth 100000 in
theorem refRightNC (la : Option Addr) (lc : Nat) (ls : List NdV) (w : World) (N : Nrd w la lc ls) : Calls Tryz.prog 10 #[.slice la ls.length lc] w fun e w' => e = .returned (.bool (rRight (ls.map NdV.x))) ∧ Below w.heap.size w w' := by
  have hm := N.rd.max
  have hle := N.rd.le
  unfold maxLen at hm
  suffices key : ∀ b, rRight (ls.map NdV.x) = b → Calls Tryz.prog 10 #[.slice la ls.length lc] w fun e w' => e = .returned (.bool b) ∧ Below w.heap.size w w' from key _ rfl
  intro b hb
  unfold rRight at hb
  rw [List.length_map] at hb
  have NN := Lib.hid N
  clear N
  by_cases h0 : ls.length = 0
  · have hn : ls = [] := List.eq_nil_of_length_eq_zero h0
    subst hn
    have HB : Hid (false = b) := Lib.hid (by rw [← hb]; rfl)
    clear hb h0
    go_enter Tryz.func10, Tryz.ntmps10
    go_wp2_with fail
    go_ret
    exact ⟨by rw [← HB.out]; rfl, Below.refl _ _⟩
  have n0 : ((ls.length : Int) == 0) = false := by rw [beq_eq_false_iff_ne]; omega
  by_cases h480 : 480 < ls.length
  · have i1 : (480 : Int) < (ls.length : Int) := by omega
    have HB : Hid (false = b) := Lib.hid (by rw [← hb, decide_eq_false (show ¬ ls.length ≤ 480 by omega)]; simp)
    clear hb h0 h480
    go_enter Tryz.func10, Tryz.ntmps10
    go_wp2_with fail
    go_ret
    exact ⟨by rw [← HB.out]; rfl, Below.refl _ _⟩
  have i1 : ¬ (480 : Int) < (ls.length : Int) := by omega
  have EC := Lib.hid (endRC la lc ls w NN.out (by omega))
  rw [decide_eq_true (show 1 ≤ ls.length by omega), decide_eq_true (show ls.length ≤ 480 by omega)] at hb
  simp only [Bool.true_and] at hb
  by_cases hw : rWalk (ls.map NdV.x) 241 0 = some ls.length
  · rw [hw] at EC hb
    have hb2 : (capsGo (ls.map NdV.x) 0).isSome = b := by simpa using hb
    have HB : Hid ((capsGo ((ls.map NdV.x).drop 0) 0).isSome = b) := Lib.hid hb2
    have n1 : ((ls.length : Int) != (ls.length : Int)) = false := by simp
    clear hb hb2 hw h0 h480
    go_enter Tryz.func10, Tryz.ntmps10
    go_wp2_with fail
    refine EC.out.mono ?_
    rintro e w1 ⟨rfl, b1⟩
    have B1 := Lib.hid b1
    clear b1 EC
    unfold wEnd
    go_wp2_with fail
    go_loopg [3, 4] ls.length (fun gh x3 x4 wr => ∃ (k g : Nat), k ≤ ls.length ∧ gh = ls.length - k ∧ x3 = .int .i64 ((g : Int) + 1) ∧ x4 = .int .i64 k ∧ g ≤ k ∧ (capsGo ((ls.map NdV.x).drop k) g).isSome = b ∧ wr = w1)
    case atStart => exact ⟨0, 0, Nat.zero_le _, rfl, rfl, rfl, Nat.le_refl _, HB.out, rfl⟩
    case round =>
      clear HB
      obtain ⟨k, g, hk, rfl, rfl, rfl, hgk, hcap, hwr⟩ := hrel
      subst hwr
      have CAP := Lib.hid hcap
      clear hcap
      by_cases hlt : k < ls.length
      · obtain ⟨y, hy⟩ : ∃ y, ls[k]? = some y := ⟨_, List.getElem?_eq_getElem hlt⟩
        obtain ⟨bb, off, rfl, hbl, hc⟩ := (NN.out.kept B1.out).rd.cells eN_len hy
        have q0 := hc 0 (.int .i64 y.x.op) (by omega) rfl
        have q5 := hc 5 (.int .i64 y.x.cap) (by omega) rfl
        simp only [Nat.add_zero] at q0
        simp only [← Nat.add_assoc] at q5
        have i3 : (k : Int) < (ls.length : Int) := by omega
        have cp := CAP.out
        rw [caps_drop hy] at cp
        clear hc hy
        by_cases h6 : y.x.op = 6
        · rw [h6] at q0
          rw [if_pos h6] at cp
          by_cases hcp : y.x.cap = (g : Int) + 1
          · rw [if_pos hcp] at cp
            rw [hcp] at q5
            have CP := Lib.hid cp
            have n2 : (((g : Int) + 1) != ((g : Int) + 1)) = false := by simp
            clear cp h6 hcp CAP
            go_wp2_with fail
            go_roundg (ls.length - (k + 1))
            case measure => omega
            case rel => exact ⟨k + 1, g + 1, by omega, rfl, by simp, by go_num, by omega, CP.out, rfl⟩
          · rw [if_neg hcp] at cp
            have CP := Lib.hid cp
            have n2 : (y.x.cap != ((g : Int) + 1)) = true := by simpa using hcp
            generalize y.x.cap = cc at q5 n2
            clear cp h6 hcp CAP
            go_wp2_with fail
            go_ret
            exact ⟨by rw [← CP.out]; rfl, B1.out⟩
        · rw [if_neg h6] at cp
          have CP := Lib.hid cp
          have n6 : (y.x.op == 6) = false := by simpa using h6
          generalize y.x.op = oo at q0 n6
          clear cp h6 CAP
          go_wp2_with fail
          go_roundg (ls.length - (k + 1))
          case measure => omega
          case rel => exact ⟨k + 1, g, by omega, rfl, rfl, by go_num, by omega, CP.out, rfl⟩
      · have hk2 : k = ls.length := by omega
        have cp := CAP.out
        rw [hk2, List.drop_of_length_le (by simp), capsGo] at cp
        have CP : Hid (true = b) := Lib.hid (by simpa using cp)
        have i3 : ¬ (k : Int) < (ls.length : Int) := by omega
        clear cp hk2 CAP
        go_wp2_with fail
        go_ret
        exact ⟨by rw [← CP.out]; rfl, B1.out⟩
  · have HB : Hid (false = b) := Lib.hid (by
      rw [← hb]
      have : (rWalk (ls.map NdV.x) 241 0 == some ls.length) = false := by simpa using hw
      rw [this]
      rfl)
    have n1 : (wEnd (rWalk (ls.map NdV.x) 241 0) != (ls.length : Int)) = true := by
      generalize rWalk (ls.map NdV.x) 241 0 = q at hw
      cases q with
      | none => simp only [wEnd, bne_iff_ne, ne_eq]; omega
      | some z =>
        have : z ≠ ls.length := fun e => hw (by rw [e])
        simp only [wEnd, bne_iff_ne, ne_eq]
        omega
    generalize wEnd (rWalk (ls.map NdV.x) 241 0) = we at EC n1
    clear hb hw h0 h480
    go_enter Tryz.func10, Tryz.ntmps10
    go_wp2_with fail
    refine EC.out.mono ?_
    rintro e w1 ⟨rfl, b1⟩
    have B1 := Lib.hid b1
    clear b1 EC
    go_wp2_with fail
    go_ret
    exact ⟨by rw [← HB.out]; rfl, B1.out⟩
theorem right_walk {L : List Nd} (h : rRight L = true) : rWalk L 241 0 = some L.length ∧ L.length ≤ 480 := by
  unfold rRight at h
  simp only [Bool.and_eq_true, decide_eq_true_eq, beq_iff_eq] at h
  exact ⟨h.1.2, h.1.1.2⟩
set_option maxHeartbeats 4000000 in
theorem refPrintC (la : Option Addr) (lc : Nat) (ls : List NdV) (w : World) (N : Nrd w la lc ls) (hT : Tab w) : Calls Tryz.prog 13 #[.slice la ls.length lc] w fun e w' => e = .returned (.string (if rRight (ls.map NdV.x) then bsR (printR (ls.map NdV.x)) else ⟨#[]⟩)) ∧ Below w.heap.size w w' := by
  have RC := Lib.hid (refRightNC la lc ls w N)
  have NN := Lib.hid N
  have HT := Lib.hid hT
  clear N hT
  cases hr : rRight (ls.map NdV.x)
  · rw [hr] at RC
    have HRR := Lib.hid hr
    rw [if_neg (by decide)]
    clear hr
    go_enter Tryz.func13, Tryz.ntmps13
    go_wp2_with fail
    refine RC.out.mono ?_
    rintro e w1 ⟨rfl, b1⟩
    have B1 := Lib.hid b1
    clear b1
    go_wp2_with fail
    go_ret
    exact ⟨rfl, B1.out⟩
  · obtain ⟨h1, h2⟩ := right_walk hr
    rw [List.length_map] at h2
    rw [hr] at RC
    rw [if_pos rfl]
    have SC := Lib.hid (fun (w1 : World) (b : Below w.heap.size w w1) => show_all NN.out h2 HT.out 241 0 _ w1 h1 b)
    clear hr h1 h2
    unfold printR
    generalize (textR (ls.map NdV.x) 241 0).1 = tx at SC ⊢
    go_enter Tryz.func13, Tryz.ntmps13
    go_wp2_with fail
    refine RC.out.mono ?_
    rintro e w1 ⟨rfl, b1⟩
    have B1 := Lib.hid b1
    clear b1
    go_wp2_with fail
    refine (SC.out w1 B1.out).mono ?_
    rintro e w2 ⟨rfl, b2⟩
    have B2 := Lib.hid (B1.out.trans (b2.mono B1.out.size))
    clear b2
    go_wp2_with fail
    go_ret
    exact ⟨rfl, B2.out⟩
end Go.Proofs.YtooockbfagkknaaGreatDoor.syn
/- SyntaxPrints, walked. -/
namespace Go.Proofs.YtooockbfagkknaaGreatDoor.syn
open Go.RowKit Go.Proofs.YtooockbfagkknaaGreatDoor.sl Go.Proofs.YtooockbfagkknaaGreatDoor.cls
/-- A copy of nodes that can be read can be read. -/
theorem Nds.nrd2 {B : Nat} {w w0 : World} {la0 : Option Addr} {lc0 : Nat} {v : Value} {ms : List NdV} (h : Nds B w v (ms.map NdV.x)) (N : Nrd w0 la0 lc0 ms) : ∃ la lc ls, v = .slice la ls.length lc ∧ ls.map NdV.x = ms.map NdV.x ∧ Nrd w la lc ls := by
  obtain ⟨ls, hls, ho, he⟩ := h
  obtain ⟨a, cap, rfl, hr, _⟩ := Own.rd ho
  refine ⟨a, cap, ls, rfl, hls, hr, fun y hy => ?_⟩
  obtain ⟨a2, c2, e2, hr2, _⟩ := Own.rd (he y hy)
  unfold NdV.v at e2
  simp only [Value.slice.injEq] at e2
  obtain ⟨rfl, hn, rfl⟩ := e2
  have hm : y.x ∈ ms.map NdV.x := by rw [← hls]; exact List.mem_map_of_mem hy
  obtain ⟨z, hz, e⟩ := List.mem_map.1 hm
  obtain ⟨_, _, k1, k2⟩ := N.each z hz
  rw [e] at k1 k2
  exact ⟨hn, hr2, k1, k2⟩
set_option maxHeartbeats 8000000 in
set_option maxRecDepth 100000 in
theorem printsC (la : Option Addr) (lc : Nat) (ls : List NdV) (w : World) (N : Nrd w la lc ls) (hlen : ls.length ≤ 1048576) (hT : Tab w) : Calls Tryz.prog 4 #[.slice la ls.length lc] w fun e w' => e = .returned (.bool true) ∧ Below w.heap.size w w' := by
  have hm := N.rd.max
  have hle := N.rd.le
  unfold maxLen at hm
  have HN := Lib.hid N
  have HT := Lib.hid hT
  have RC := Lib.hid (fun (w' : World) (b : Below w.heap.size w w') => runsC w' (HT.out.kept b))
  have CC := Lib.hid (copyNodesC la lc ls w N (by omega))
  clear N hT
  obtain ⟨S, hS⟩ : ∃ S, (if rRight (ls.map NdV.x) = true then bsR (printR (ls.map NdV.x)) else ⟨#[]⟩) = S := ⟨_, rfl⟩
  obtain ⟨gn, hgn⟩ : ∃ gn : Int, (if rRight (ls.map NdV.x) = true then (grpN (ls.map NdV.x) : Int) else 0) = gn := ⟨_, rfl⟩
  have R1 : Hid (∀ (w' : World), Below w.heap.size w w' → Calls Tryz.prog 11 #[.slice la ls.length lc] w' fun e w2 => e = .returned (.bool (rRight (ls.map NdV.x))) ∧ Below w'.heap.size w' w2) := Lib.hid fun w' b => by
    rw [rRight_eq]; exact rightNC la lc ls w' (HN.out.kept b)
  have P1 : Hid (∀ (w' : World), Below w.heap.size w w' → Calls Tryz.prog 12 #[.slice la ls.length lc] w' fun e w2 => e = .returned (.string S) ∧ Below w'.heap.size w' w2) := Lib.hid fun w' b => by
    rw [← hS, rRight_eq]; exact printC la lc ls w' (HN.out.kept b) (HT.out.kept b)
  have G1 : Hid (∀ (w' : World), Below w.heap.size w w' → Calls Tryz.prog 14 #[.slice la ls.length lc] w' fun e w2 => e = .returned (.int .i64 gn) ∧ Below w'.heap.size w' w2) := Lib.hid fun w' b => by
    rw [← hgn, rRight_eq]; exact groupsC la lc ls w' (HN.out.kept b)
  have HGN := Lib.hid hgn
  have HS := Lib.hid hS
  clear hS hgn
  obtain ⟨rr, hrr⟩ : ∃ rr, rRight (ls.map NdV.x) = rr := ⟨_, rfl⟩
  have HRR := Lib.hid hrr
  rw [hrr] at R1 HGN HS
  clear hrr
  cases rr
  · go_enter Tryz.func4, Tryz.ntmps4
    go_wp2_with fail
    refine CC.out.mono ?_
    rintro e w1 ⟨v1, rfl, n1, b1⟩
    obtain ⟨ma, mc, ms, rfl, hms, nm⟩ := n1.nrd2 HN.out
    have HMS := Lib.hid hms
    have NM := Lib.hid nm
    have B1 := Lib.hid b1
    have mm := nm.rd.max
    have mle := nm.rd.le
    unfold maxLen at mm
    clear b1 n1 nm hms CC
    have R2 : Hid (∀ (w' : World), Below w1.heap.size w1 w' → Calls Tryz.prog 10 #[.slice ma ms.length mc] w' fun e w2 => e = .returned (.bool false) ∧ Below w'.heap.size w' w2) := Lib.hid fun w' b => by
      rw [← HRR.out, ← HMS.out]; exact refRightNC ma mc ms w' (NM.out.kept b)
    have P2 : Hid (∀ (w' : World), Below w1.heap.size w1 w' → Calls Tryz.prog 13 #[.slice ma ms.length mc] w' fun e w2 => e = .returned (.string S) ∧ Below w'.heap.size w' w2) := Lib.hid fun w' b => by
      have h := refPrintC ma mc ms w' (NM.out.kept b) (HT.out.kept (B1.out.trans (b.mono B1.out.size)))
      rw [HMS.out, HRR.out] at h
      rw [← HS.out]
      simpa using h
    have D1 : Hid (∀ (w' : World), Below w1.heap.size w1 w' → Calls Tryz.prog 7 #[.slice la ls.length lc, .slice ma ms.length mc] w' fun e w2 => e = .returned (.bool true) ∧ Below w'.heap.size w' w2) := Lib.hid fun w' b => by
      have := nodesC la ma lc mc ls ms w' (HN.out.kept (B1.out.trans (b.mono B1.out.size))) (NM.out.kept b)
      rwa [HMS.out, decide_eq_true rfl] at this
    go_wp2_with fail
    refine (R2.out _ (Below.refl _ _)).mono ?_
    rintro e w2 ⟨rfl, b2⟩
    have C2 := Lib.hid b2
    have B2 := Lib.hid (B1.out.trans (b2.mono B1.out.size))
    clear b2 HS
    go_wp2_with fail
    go_loopg [5, 6] 0 (fun gh x5 x6 wr => x6 = .int .i64 0 ∧ x5 = .int .i64 0 ∧ gh = 0 ∧ wr = w2)
    case atStart => exact ⟨rfl, rfl, rfl, rfl⟩
    case round =>
      obtain ⟨rfl, rfl, rfl, hwr⟩ := hrel
      subst hwr
      have hfin : (0 : Int) = gn := by rw [← HGN.out]; simp
      rw [← hfin] at G1
      clear hfin HGN
      by_cases hlt : 0 < ls.length
      · have i3 : (0 : Int) < (ls.length : Int) := by omega
        go_wp2_with fail
        refine (R1.out _ B2.out).mono ?_
        rintro e w3 ⟨rfl, b3⟩
        have B3 := Lib.hid (B2.out.trans (b3.mono B2.out.size))
        have C3 := Lib.hid (C2.out.trans (b3.mono C2.out.size))
        clear b3
        go_wp2_with fail
        refine (P1.out _ B3.out).mono ?_
        rintro e w4 ⟨rfl, b4⟩
        have B4 := Lib.hid (B3.out.trans (b4.mono B3.out.size))
        have C4 := Lib.hid (C3.out.trans (b4.mono C3.out.size))
        clear b4
        go_wp2_with fail
        refine (P2.out _ C4.out).mono ?_
        rintro e w5 ⟨rfl, b5⟩
        have B5 := Lib.hid (B4.out.trans (b5.mono B4.out.size))
        have C5 := Lib.hid (C4.out.trans (b5.mono C4.out.size))
        clear b5
        go_wp2_with fail
        refine (G1.out _ B5.out).mono ?_
        rintro e w6 ⟨rfl, b6⟩
        have B6 := Lib.hid (B5.out.trans (b6.mono B5.out.size))
        have C6 := Lib.hid (C5.out.trans (b6.mono C5.out.size))
        clear b6
        go_wp2_with fail
        refine (D1.out _ C6.out).mono ?_
        rintro e w7 ⟨rfl, b7⟩
        have B7 := Lib.hid (B6.out.trans (b7.mono B6.out.size))
        clear b7
        go_wp2_with fail
        refine (RC.out _ B7.out).mono ?_
        rintro e w8 ⟨rfl, b8⟩
        go_wp2_with fail
        go_ret
        exact ⟨rfl, B7.out.trans (b8.mono B7.out.size)⟩
      · have i3 : ¬ (0 : Int) < (ls.length : Int) := by omega
        go_wp2_with fail
        refine (R1.out _ B2.out).mono ?_
        rintro e w3 ⟨rfl, b3⟩
        have B3 := Lib.hid (B2.out.trans (b3.mono B2.out.size))
        have C3 := Lib.hid (C2.out.trans (b3.mono C2.out.size))
        clear b3
        go_wp2_with fail
        refine (P1.out _ B3.out).mono ?_
        rintro e w4 ⟨rfl, b4⟩
        have B4 := Lib.hid (B3.out.trans (b4.mono B3.out.size))
        have C4 := Lib.hid (C3.out.trans (b4.mono C3.out.size))
        clear b4
        go_wp2_with fail
        refine (P2.out _ C4.out).mono ?_
        rintro e w5 ⟨rfl, b5⟩
        have B5 := Lib.hid (B4.out.trans (b5.mono B4.out.size))
        have C5 := Lib.hid (C4.out.trans (b5.mono C4.out.size))
        clear b5
        go_wp2_with fail
        refine (G1.out _ B5.out).mono ?_
        rintro e w6 ⟨rfl, b6⟩
        have B6 := Lib.hid (B5.out.trans (b6.mono B5.out.size))
        have C6 := Lib.hid (C5.out.trans (b6.mono C5.out.size))
        clear b6
        go_wp2_with fail
        refine (D1.out _ C6.out).mono ?_
        rintro e w7 ⟨rfl, b7⟩
        have B7 := Lib.hid (B6.out.trans (b7.mono B6.out.size))
        clear b7
        go_wp2_with fail
        refine (RC.out _ B7.out).mono ?_
        rintro e w8 ⟨rfl, b8⟩
        go_wp2_with fail
        go_ret
        exact ⟨rfl, B7.out.trans (b8.mono B7.out.size)⟩
  · go_enter Tryz.func4, Tryz.ntmps4
    go_wp2_with fail
    refine CC.out.mono ?_
    rintro e w1 ⟨v1, rfl, n1, b1⟩
    obtain ⟨ma, mc, ms, rfl, hms, nm⟩ := n1.nrd2 HN.out
    have HMS := Lib.hid hms
    have NM := Lib.hid nm
    have B1 := Lib.hid b1
    have mm := nm.rd.max
    have mle := nm.rd.le
    unfold maxLen at mm
    clear b1 n1 nm hms CC
    have R2 : Hid (∀ (w' : World), Below w1.heap.size w1 w' → Calls Tryz.prog 10 #[.slice ma ms.length mc] w' fun e w2 => e = .returned (.bool true) ∧ Below w'.heap.size w' w2) := Lib.hid fun w' b => by
      rw [← HRR.out, ← HMS.out]; exact refRightNC ma mc ms w' (NM.out.kept b)
    have P2 : Hid (∀ (w' : World), Below w1.heap.size w1 w' → Calls Tryz.prog 13 #[.slice ma ms.length mc] w' fun e w2 => e = .returned (.string S) ∧ Below w'.heap.size w' w2) := Lib.hid fun w' b => by
      have h := refPrintC ma mc ms w' (NM.out.kept b) (HT.out.kept (B1.out.trans (b.mono B1.out.size)))
      rw [HMS.out, HRR.out] at h
      rw [← HS.out]
      simpa using h
    have D1 : Hid (∀ (w' : World), Below w1.heap.size w1 w' → Calls Tryz.prog 7 #[.slice la ls.length lc, .slice ma ms.length mc] w' fun e w2 => e = .returned (.bool true) ∧ Below w'.heap.size w' w2) := Lib.hid fun w' b => by
      have := nodesC la ma lc mc ls ms w' (HN.out.kept (B1.out.trans (b.mono B1.out.size))) (NM.out.kept b)
      rwa [HMS.out, decide_eq_true rfl] at this
    go_wp2_with fail
    refine (R2.out _ (Below.refl _ _)).mono ?_
    rintro e w2 ⟨rfl, b2⟩
    have C2 := Lib.hid b2
    have B2 := Lib.hid (B1.out.trans (b2.mono B1.out.size))
    clear b2 HS
    go_wp2_with fail
    go_loopg [5, 6] ls.length (fun gh x5 x6 wr => ∃ k g : Nat, k ≤ ls.length ∧ gh = ls.length - k ∧ x6 = .int .i64 k ∧ x5 = .int .i64 g ∧ grpN ((ls.take k).map NdV.x) = g ∧ g ≤ k ∧ wr = w2)
    case atStart => exact ⟨0, 0, Nat.zero_le _, rfl, rfl, rfl, rfl, Nat.le_refl _, rfl⟩
    case round =>
      obtain ⟨k, g, hk, rfl, rfl, rfl, hgg, hgk, hwr⟩ := hrel
      subst hwr
      have HG := Lib.hid hgg
      clear hgg
      by_cases hlt : k < ls.length
      · obtain ⟨y, hy⟩ : ∃ y, ls[k]? = some y := ⟨_, List.getElem?_eq_getElem hlt⟩
        obtain ⟨bb, off, rfl, hbl, hc⟩ := (HN.out.kept B2.out).rd.cells eN_len hy
        have q0 := hc 0 (.int .i64 y.x.op) (by omega) rfl
        simp only [Nat.add_zero] at q0
        have st := grpN_step hy
        rw [HG.out] at st
        have i3 : (k : Int) < (ls.length : Int) := by omega
        clear hc hy
        by_cases h6 : y.x.op = 6
        · rw [h6] at q0
          rw [if_pos h6] at st
          have ST := Lib.hid st
          clear h6 st
          go_wp2_with fail
          go_roundg (ls.length - (k + 1))
          case measure => omega
          case rel => exact ⟨k + 1, g + 1, by omega, rfl, by go_num, by go_num, ST.out, by omega, rfl⟩
        · rw [if_neg h6] at st
          have ST := Lib.hid st
          have n6 : (y.x.op == 6) = false := by simpa using h6
          generalize y.x.op = oo at q0 n6
          clear h6 st
          go_wp2_with fail
          go_roundg (ls.length - (k + 1))
          case measure => omega
          case rel => exact ⟨k + 1, g, by omega, rfl, by go_num, rfl, ST.out, by omega, rfl⟩
      · have hk2 : k = ls.length := by omega
        have hfin : (g : Int) = gn := by
          rw [← HGN.out, ← HG.out, hk2, List.take_length]; simp
        have i3 : ¬ (k : Int) < (ls.length : Int) := by omega
        rw [← hfin] at G1
        clear hk2 hfin HG HGN
        go_wp2_with fail
        refine (R1.out _ B2.out).mono ?_
        rintro e w3 ⟨rfl, b3⟩
        have B3 := Lib.hid (B2.out.trans (b3.mono B2.out.size))
        have C3 := Lib.hid (C2.out.trans (b3.mono C2.out.size))
        clear b3
        go_wp2_with fail
        refine (P1.out _ B3.out).mono ?_
        rintro e w4 ⟨rfl, b4⟩
        have B4 := Lib.hid (B3.out.trans (b4.mono B3.out.size))
        have C4 := Lib.hid (C3.out.trans (b4.mono C3.out.size))
        clear b4
        go_wp2_with fail
        refine (P2.out _ C4.out).mono ?_
        rintro e w5 ⟨rfl, b5⟩
        have B5 := Lib.hid (B4.out.trans (b5.mono B4.out.size))
        have C5 := Lib.hid (C4.out.trans (b5.mono C4.out.size))
        clear b5
        go_wp2_with fail
        refine (G1.out _ B5.out).mono ?_
        rintro e w6 ⟨rfl, b6⟩
        have B6 := Lib.hid (B5.out.trans (b6.mono B5.out.size))
        have C6 := Lib.hid (C5.out.trans (b6.mono C5.out.size))
        clear b6
        go_wp2_with fail
        refine (D1.out _ C6.out).mono ?_
        rintro e w7 ⟨rfl, b7⟩
        have B7 := Lib.hid (B6.out.trans (b7.mono B6.out.size))
        clear b7
        go_wp2_with fail
        refine (RC.out _ B7.out).mono ?_
        rintro e w8 ⟨rfl, b8⟩
        go_wp2_with fail
        go_ret
        exact ⟨rfl, B7.out.trans (b8.mono B7.out.size)⟩
end Go.Proofs.YtooockbfagkknaaGreatDoor.syn
