/- SyntaxRuns, walked. -/
import Derived.Test.YtooockbfagkknaaGreatDoorKeep
namespace Go.Proofs.YtooockbfagkknaaGreatDoor.syn
open Go.RowKit Go.Proofs.YtooockbfagkknaaGreatDoor.sl Go.Proofs.YtooockbfagkknaaGreatDoor.cls
theorem p1 : parseF [97, 42, 42] = ([], 4, 2) := by kernel_rfl
theorem s97 : singleF 97 = [(97, 97)] := single_is (by decide)
theorem s98 : singleF 98 = [(98, 98)] := single_is (by decide)
theorem p2 : parseF [97, 124, 98, 42] = ([{ nd 4 with kids := 2 }, ndC [(97, 97)], { nd 5 with mx := -1, kids := 1 }, ndC [(98, 98)]], 0, 0) := by
  rw [← s97, ← s98]
  kernel_rfl
theorem p3 : parseF [] = ([nd 1], 0, 0) := by kernel_rfl
theorem p4 : parseF [40, 97, 41, 40, 63, 58, 98, 41] = ([{ nd 3 with kids := 2 }, { nd 6 with cap := 1, kids := 1 }, ndC [(97, 97)], ndC [(98, 98)]], 0, 0) := by
  rw [← s97, ← s98]
  kernel_rfl
theorem p5 : parseF [40, 97] = ([], 4, 0) := by kernel_rfl
theorem p6 : parseF [91, 122, 45, 97, 93] = ([], 4, 1) := by kernel_rfl
theorem p7 : parseF [97, 123, 51, 49, 125] = ([], 2, 1) := by kernel_rfl
theorem p8 : parseF [97, 123, 50, 44, 49, 125] = ([], 4, 1) := by kernel_rfl
theorem p9 : parseF [92, 113] = ([], 4, 0) := by kernel_rfl
theorem p10 : parseF [41] = ([], 4, 0) := by kernel_rfl
theorem m99 : makeF [(97, 99)] = [(97, 99)] := makeF_good ⟨by simp [InP], by simp⟩
theorem dot_is : dotF = [(0, 9), (11, 55295), (57344, 1114111)] :=
  notF_is ⟨by simp [InP], by simp⟩ fun r => by rw [Bool.eq_iff_iff]; simp [hasB, validB]; omega
theorem s120 : singleF 120 = [(120, 120)] := single_is (by decide)
theorem s121 : singleF 121 = [(121, 121)] := single_is (by decide)
theorem s122 : singleF 122 = [(122, 122)] := single_is (by decide)
theorem s10 : singleF 10 = [(10, 10)] := single_is (by decide)
def L11 : List Nd := [{ nd 4 with kids := 2 }, { nd 3 with kids := 2 }, { nd 5 with mn := 1, mx := -1, lz := true, kids := 1 }, ndC [(97, 99)], { nd 5 with mn := 2, mx := 2, kids := 1 }, ndC [(120, 120)], { nd 5 with mx := -1, kids := 1 }, { nd 3 with kids := 2 }, ndC [(121, 121)], ndC [(122, 122)]]
def t11 : List UInt8 := [91, 97, 45, 99, 93, 43, 63, 120, 123, 50, 125, 124, 40, 63, 58, 121, 122, 41, 42]
theorem p11 : parseF t11 = (L11, 0, 0) := by
  unfold L11
  rw [← m99, ← s120, ← s121, ← s122]
  kernel_rfl
theorem n10 : notF (makeF (singleF 10)) = dotF := by
  unfold dotF
  rw [s10, makeF_good ⟨by simp [InP], by simp⟩]
theorem p12 : parseF [91, 94, 92, 110, 93] = ([ndC dotF], 0, 0) := by
  rw [← n10]
  kernel_rfl
theorem parse_rr (l : List UInt8) (L : List Nd) (h : parseF l = (L, 0, 0)) (hl : L ≠ []) : rRight L = true := by
  rcases parse_fine l with h1 | ⟨_, _, h1⟩
  · rw [h] at h1; exact absurd h1 hl
  · rw [h] at h1; exact h1
theorem c99 : classedR [(97, 99)] = [91, 97, 45, 99, 93] := by
  unfold classedR
  rw [dot_is, if_neg (by decide), if_neg (by decide), if_neg (by decide)]
  rfl
theorem c120 : classedR [(120, 120)] = [120] := by
  unfold classedR
  rw [dot_is, if_neg (by decide), if_neg (by decide), if_pos (by decide)]
  rfl
theorem c121 : classedR [(121, 121)] = [121] := by
  unfold classedR
  rw [dot_is, if_neg (by decide), if_neg (by decide), if_pos (by decide)]
  rfl
theorem c122 : classedR [(122, 122)] = [122] := by
  unfold classedR
  rw [dot_is, if_neg (by decide), if_neg (by decide), if_pos (by decide)]
  rfl
theorem cdot : classedR dotF = [46] := by
  unfold classedR
  rw [if_pos rfl]
theorem r11 : printR L11 = [91, 97, 45, 99, 93, 43, 63, 120, 123, 50, 125, 124, 40, 63, 58, 121, 122, 41, 42] := by
  have e : printR L11 = ((classedR [(97, 99)] ++ [43, 63]) ++ ((classedR [(120, 120)] ++ [123, 50, 125]) ++ [])) ++ ([124] ++ (([40, 63, 58] ++ (classedR [(121, 121)] ++ (classedR [(122, 122)] ++ [])) ++ [41]) ++ [42]) ++ []) := by kernel_rfl
  rw [e, c99, c120, c121, c122]
  rfl
theorem b11 : bsL (printR L11) = t11 := by
  unfold t11
  rw [r11]
  exact (by kernel_rfl : bsL [91, 97, 45, 99, 93, 43, 63, 120, 123, 50, 125, 124, 40, 63, 58, 121, 122, 41, 42] = [91, 97, 45, 99, 93, 43, 63, 120, 123, 50, 125, 124, 40, 63, 58, 121, 122, 41, 42])
theorem b12 : bsL (printR [ndC dotF]) = [46] := by
  have e : printR [ndC dotF] = classedR dotF := by kernel_rfl
  rw [e, cdot]
  exact (by kernel_rfl : bsL [46] = [46])
theorem b3 : bsL (printR [nd 1]) = [40, 63, 58, 41] := by kernel_rfl
theorem nodesT (la lb : Option Addr) (ca cb : Nat) (ls ms : List NdV) (w : World) (NA : Nrd w la ca ls) (NB : Nrd w lb cb ms) (e : ls.map NdV.x = ms.map NdV.x) :
    Calls Tryz.prog 7 #[.slice la ls.length ca, .slice lb ms.length cb] w fun e w' => e = .returned (.bool true) ∧ Below w.heap.size w w' :=
  (nodesC la lb ca cb ls ms w NA NB).mono fun _ _ ⟨he, hb⟩ => ⟨by rw [he, decide_eq_true e], hb⟩
/-- A node's value of a node and a slice. -/
def nv (x : Nd) (a : Option Addr) (n c : Nat) : NdV := ⟨x, a, n, c⟩
theorem Nrd.built {w : World} {cs : Array Value} (ls : List NdV) (n : Nat) (hn : ls.length = n) (hc : cs.toList = flat eN ls) (hm : n ≤ 4096) (he : ∀ y ∈ ls, y.n = y.x.r.length ∧ Rd er w y.a y.x.r y.c ∧ y.x.r.length ≤ 2000000 ∧ y.x.kids ≤ 9223372036854775807) : Nrd (w.alloc (.cells cs 35)) (some ⟨w.heap.size, 0, none⟩) n ls :=
  ⟨Rd.built ls n hn hc hm, fun y hy => ⟨(he y hy).1, Rd.alloc (he y hy).2.1 _, (he y hy).2.2⟩⟩
theorem Nrd.alloc {w : World} {a : Option Addr} {c : Nat} {ls : List NdV} (h : Nrd w a c ls) (o : Obj) : Nrd (w.alloc o) a c ls := h.kept ((Below.refl w.heap.size w).alloc (Nat.le_refl _) o)
set_option maxHeartbeats 4000000 in
set_option maxRecDepth 100000 in
theorem runsC (w : World) (hT : Tab w) : Calls Tryz.prog 8 #[] w fun e w' => e = .returned (.bool true) ∧ Below w.heap.size w w' := by
  have HT := Lib.hid hT
  clear hT
  go_enter Tryz.func8, Tryz.ntmps8
  go_wp2_with fail
  have rA : Rd er ((w.alloc (.cells #[.int .i32 97, .int .i32 97] 58)).alloc (.cells #[.int .i32 98, .int .i32 98] 58)) (some ⟨w.heap.size, 0, none⟩) [(97, 97)] 1 := Rd.alloc (Rd.built [(97, 97)] 1 rfl rfl (by omega)) _
  have rB : Rd er ((w.alloc (.cells #[.int .i32 97, .int .i32 97] 58)).alloc (.cells #[.int .i32 98, .int .i32 98] 58)) (some ⟨w.heap.size + 1, 0, none⟩) [(98, 98)] 1 := by
    have h := Rd.built (enc := er) (w := w.alloc (.cells #[.int .i32 97, .int .i32 97] 58)) (cs := #[.int .i32 98, .int .i32 98]) (E := 58) [(98, 98)] 1 rfl rfl (by omega)
    rwa [show (w.alloc (.cells #[.int .i32 97, .int .i32 97] 58)).heap.size = w.heap.size + 1 from Array.size_push ..] at h
  have B0 : Below w.heap.size w ((w.alloc (.cells #[.int .i32 97, .int .i32 97] 58)).alloc (.cells #[.int .i32 98, .int .i32 98] 58)) :=
    ((Below.refl w.heap.size w).alloc (Nat.le_refl _) _).alloc (by rw [show (w.alloc (.cells #[.int .i32 97, .int .i32 97] 58)).heap.size = w.heap.size + 1 from Array.size_push ..]; omega) _
  generalize ((w.alloc (.cells #[.int .i32 97, .int .i32 97] 58)).alloc (.cells #[.int .i32 98, .int .i32 98] 58)) = W at rA rB B0 ⊢
  generalize (some ⟨w.heap.size, 0, none⟩ : Option Addr) = aA at rA ⊢
  generalize (some ⟨w.heap.size + 1, 0, none⟩ : Option Addr) = aB at rB ⊢
  have RA := Lib.hid rA
  have RB := Lib.hid rB
  have BB := Lib.hid B0
  clear rA rB B0
  refine (readC [97, 124, 98, 42] (by simp) _).mono ?_
  rw [p2]
  rintro e w1 ⟨l1, c1, ls1, rfl, m1, n1, -, b1⟩
  have M1 := Lib.hid m1
  have N1 := Lib.hid n1
  replace RA := Lib.hid (RA.out.kept b1)
  replace RB := Lib.hid (RB.out.kept b1)
  replace BB := Lib.hid (BB.out.trans (b1.mono BB.out.size))
  clear b1 m1 n1
  go_wp2_with fail
  refine (readC [] (by simp) _).mono ?_
  rw [p3]
  rintro e w2 ⟨l2, c2, ls2, rfl, m2, n2, -, b2⟩
  have M2 := Lib.hid m2
  have N2 := Lib.hid n2
  replace RA := Lib.hid (RA.out.kept b2)
  replace RB := Lib.hid (RB.out.kept b2)
  replace N1 := Lib.hid (N1.out.kept b2)
  replace BB := Lib.hid (BB.out.trans (b2.mono BB.out.size))
  clear b2 m2 n2
  go_wp2_with fail
  refine (readC [40, 97, 41, 40, 63, 58, 98, 41] (by simp) _).mono ?_
  rw [p4]
  rintro e w3 ⟨l3, c3, ls3, rfl, m3, n3, -, b3⟩
  have M3 := Lib.hid m3
  have N3 := Lib.hid n3
  replace RA := Lib.hid (RA.out.kept b3)
  replace RB := Lib.hid (RB.out.kept b3)
  replace N1 := Lib.hid (N1.out.kept b3)
  replace N2 := Lib.hid (N2.out.kept b3)
  replace BB := Lib.hid (BB.out.trans (b3.mono BB.out.size))
  clear b3 m3 n3
  go_wp2_with fail
  have HL1 : Nrd (w3.alloc (.cells #[.int .i64 4, .slice none 0 0, .int .i64 0, .int .i64 0, .bool false, .int .i64 0, .int .i64 2, .int .i64 2, .slice aA 1 1, .int .i64 0, .int .i64 0, .bool false, .int .i64 0, .int .i64 0, .int .i64 5, .slice none 0 0, .int .i64 0, .int .i64 (-1), .bool false, .int .i64 0, .int .i64 1, .int .i64 2, .slice aB 1 1, .int .i64 0, .int .i64 0, .bool false, .int .i64 0, .int .i64 0] 35)) (some ⟨w3.heap.size, 0, none⟩) 4 [nv { nd 4 with kids := 2 } none 0 0, nv (ndC [(97, 97)]) aA 1 1, nv { nd 5 with mx := -1, kids := 1 } none 0 0, nv (ndC [(98, 98)]) aB 1 1] := by
    refine Nrd.built _ 4 rfl rfl (by omega) ?_
    simp only [List.mem_cons, List.not_mem_nil, or_false, forall_eq_or_imp, forall_eq]
    exact ⟨⟨rfl, Rd.nil _ _, by decide, by decide⟩, ⟨rfl, RA.out, (by show (1 : Nat) ≤ 2000000; decide), (by show (0 : Int) ≤ _; decide)⟩, ⟨rfl, Rd.nil _ _, by decide, by decide⟩, ⟨rfl, RB.out, (by show (1 : Nat) ≤ 2000000; decide), (by show (0 : Int) ≤ _; decide)⟩⟩
  have HL1' := Lib.hid HL1
  clear HL1
  refine (nodesT l1 _ c1 4 ls1 [nv { nd 4 with kids := 2 } none 0 0, nv (ndC [(97, 97)]) aA 1 1, nv { nd 5 with mx := -1, kids := 1 } none 0 0, nv (ndC [(98, 98)]) aB 1 1] _ (Nrd.alloc N1.out _) HL1'.out (by rw [M1.out]; rfl)).mono ?_
  rintro e w4 ⟨rfl, b⟩
  replace RA := Lib.hid (Rd.next RA.out b)
  replace RB := Lib.hid (Rd.next RB.out b)
  replace N1 := Lib.hid ((Nrd.alloc N1.out _).kept b)
  replace N2 := Lib.hid ((Nrd.alloc N2.out _).kept b)
  replace N3 := Lib.hid ((Nrd.alloc N3.out _).kept b)
  replace BB := Lib.hid (below_next BB.out b)
  clear b HL1'
  go_wp2_with fail
  have HL2 : Nrd (w4.alloc (.cells #[.int .i64 1, .slice none 0 0, .int .i64 0, .int .i64 0, .bool false, .int .i64 0, .int .i64 0] 35)) (some ⟨w4.heap.size, 0, none⟩) 1 [nv (nd 1) none 0 0] := by
    refine Nrd.built _ 1 rfl rfl (by omega) ?_
    simp only [List.mem_cons, List.not_mem_nil, or_false, forall_eq]
    exact ⟨rfl, Rd.nil _ _, by decide, by decide⟩
  have HL2' := Lib.hid HL2
  clear HL2
  refine (nodesT l2 _ c2 1 ls2 [nv (nd 1) none 0 0] _ (Nrd.alloc N2.out _) HL2'.out (by rw [M2.out]; rfl)).mono ?_
  rintro e w5 ⟨rfl, b⟩
  replace RA := Lib.hid (Rd.next RA.out b)
  replace RB := Lib.hid (Rd.next RB.out b)
  replace N1 := Lib.hid ((Nrd.alloc N1.out _).kept b)
  replace N3 := Lib.hid ((Nrd.alloc N3.out _).kept b)
  replace BB := Lib.hid (below_next BB.out b)
  clear b HL2'
  go_wp2_with fail
  have HL3 : Nrd (w5.alloc (.cells #[.int .i64 3, .slice none 0 0, .int .i64 0, .int .i64 0, .bool false, .int .i64 0, .int .i64 2, .int .i64 6, .slice none 0 0, .int .i64 0, .int .i64 0, .bool false, .int .i64 1, .int .i64 1, .int .i64 2, .slice aA 1 1, .int .i64 0, .int .i64 0, .bool false, .int .i64 0, .int .i64 0, .int .i64 2, .slice aB 1 1, .int .i64 0, .int .i64 0, .bool false, .int .i64 0, .int .i64 0] 35)) (some ⟨w5.heap.size, 0, none⟩) 4 [nv { nd 3 with kids := 2 } none 0 0, nv { nd 6 with cap := 1, kids := 1 } none 0 0, nv (ndC [(97, 97)]) aA 1 1, nv (ndC [(98, 98)]) aB 1 1] := by
    refine Nrd.built _ 4 rfl rfl (by omega) ?_
    simp only [List.mem_cons, List.not_mem_nil, or_false, forall_eq_or_imp, forall_eq]
    exact ⟨⟨rfl, Rd.nil _ _, by decide, by decide⟩, ⟨rfl, Rd.nil _ _, by decide, by decide⟩, ⟨rfl, RA.out, (by show (1 : Nat) ≤ 2000000; decide), (by show (0 : Int) ≤ _; decide)⟩, ⟨rfl, RB.out, (by show (1 : Nat) ≤ 2000000; decide), (by show (0 : Int) ≤ _; decide)⟩⟩
  have HL3' := Lib.hid HL3
  clear HL3
  refine (nodesT l3 _ c3 4 ls3 [nv { nd 3 with kids := 2 } none 0 0, nv { nd 6 with cap := 1, kids := 1 } none 0 0, nv (ndC [(97, 97)]) aA 1 1, nv (ndC [(98, 98)]) aB 1 1] _ (Nrd.alloc N3.out _) HL3'.out (by rw [M3.out]; rfl)).mono ?_
  rintro e w6 ⟨rfl, b⟩
  replace N1 := Lib.hid ((Nrd.alloc N1.out _).kept b)
  replace N3 := Lib.hid ((Nrd.alloc N3.out _).kept b)
  replace BB := Lib.hid (below_next BB.out b)
  clear b HL3'
  go_wp2_with fail
  have GC := groupsC l3 c3 ls3 w6 N3.out
  rw [M3.out, show rightF [{ nd 3 with kids := 2 }, { nd 6 with cap := 1, kids := 1 }, ndC [(97, 97)], ndC [(98, 98)]] = true from (rRight_eq _).symm.trans (parse_rr _ _ p4 (by simp)), if_pos rfl] at GC
  refine GC.mono ?_
  rintro e w7 ⟨rfl, b⟩
  replace N1 := Lib.hid (N1.out.kept b)
  replace BB := Lib.hid (BB.out.trans (b.mono BB.out.size))
  clear b GC
  go_wp2_with fail
  refine (failsC [97, 42, 42] 4 2 (by simp) p1 w7).mono ?_
  rintro e w8 ⟨rfl, b⟩
  replace N1 := Lib.hid (N1.out.kept b)
  replace BB := Lib.hid (BB.out.trans (b.mono BB.out.size))
  clear b
  go_wp2_with fail
  refine (failsC [40, 97] 4 0 (by simp) p5 w8).mono ?_
  rintro e w9 ⟨rfl, b⟩
  replace N1 := Lib.hid (N1.out.kept b)
  replace BB := Lib.hid (BB.out.trans (b.mono BB.out.size))
  clear b
  go_wp2_with fail
  refine (failsC [91, 122, 45, 97, 93] 4 1 (by simp) p6 w9).mono ?_
  rintro e w10 ⟨rfl, b⟩
  replace N1 := Lib.hid (N1.out.kept b)
  replace BB := Lib.hid (BB.out.trans (b.mono BB.out.size))
  clear b
  go_wp2_with fail
  refine (failsC [97, 123, 51, 49, 125] 2 1 (by simp) p7 w10).mono ?_
  rintro e w11 ⟨rfl, b⟩
  replace N1 := Lib.hid (N1.out.kept b)
  replace BB := Lib.hid (BB.out.trans (b.mono BB.out.size))
  clear b
  go_wp2_with fail
  refine (failsC [97, 123, 50, 44, 49, 125] 4 1 (by simp) p8 w11).mono ?_
  rintro e w12 ⟨rfl, b⟩
  replace N1 := Lib.hid (N1.out.kept b)
  replace BB := Lib.hid (BB.out.trans (b.mono BB.out.size))
  clear b
  go_wp2_with fail
  refine (failsC [92, 113] 4 0 (by simp) p9 w12).mono ?_
  rintro e w13 ⟨rfl, b⟩
  replace N1 := Lib.hid (N1.out.kept b)
  replace BB := Lib.hid (BB.out.trans (b.mono BB.out.size))
  clear b
  go_wp2_with fail
  refine (failsC [41] 4 0 (by simp) p10 w13).mono ?_
  rintro e w14 ⟨rfl, b⟩
  replace N1 := Lib.hid (N1.out.kept b)
  replace BB := Lib.hid (BB.out.trans (b.mono BB.out.size))
  clear b
  go_wp2_with fail
  refine (turnsC t11 t11 L11 (by first | decide | simp) p11 (parse_rr _ _ p11 (by simp [L11])) b11 w14 (HT.out.kept BB.out)).mono ?_
  rintro e w15 ⟨rfl, b⟩
  replace N1 := Lib.hid (N1.out.kept b)
  replace BB := Lib.hid (BB.out.trans (b.mono BB.out.size))
  clear b
  go_wp2_with fail
  refine (turnsC [91, 94, 92, 110, 93] [46] [ndC dotF] (by first | decide | simp) p12 (parse_rr _ _ p12 (by simp)) b12 w15 (HT.out.kept BB.out)).mono ?_
  rintro e w16 ⟨rfl, b⟩
  replace N1 := Lib.hid (N1.out.kept b)
  replace BB := Lib.hid (BB.out.trans (b.mono BB.out.size))
  clear b
  go_wp2_with fail
  refine (turnsC [] [40, 63, 58, 41] [nd 1] (by first | decide | simp) p3 (parse_rr _ _ p3 (by simp)) b3 w16 (HT.out.kept BB.out)).mono ?_
  rintro e w17 ⟨rfl, b⟩
  replace N1 := Lib.hid (N1.out.kept b)
  replace BB := Lib.hid (BB.out.trans (b.mono BB.out.size))
  clear b
  go_wp2_with fail
  have RC := rightNC l1 c1 ls1 w17 N1.out
  rw [M1.out, show rightF [{ nd 4 with kids := 2 }, ndC [(97, 97)], { nd 5 with mx := -1, kids := 1 }, ndC [(98, 98)]] = true from (rRight_eq _).symm.trans (parse_rr _ _ p2 (by simp))] at RC
  refine RC.mono ?_
  rintro e w18 ⟨rfl, b⟩
  replace BB := Lib.hid (BB.out.trans (b.mono BB.out.size))
  clear b RC
  go_wp2_with fail
  refine (rightNC none 0 [] w18 ⟨Rd.nil _ _, by simp⟩).mono ?_
  rintro e w19 ⟨rfl, b⟩
  replace BB := Lib.hid (BB.out.trans (b.mono BB.out.size))
  clear b
  go_wp2_with fail
  go_ret
  exact ⟨rfl, BB.out⟩
end Go.Proofs.YtooockbfagkknaaGreatDoor.syn
