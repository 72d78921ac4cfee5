/- SyntaxNested, walked. -/
import Derived.Test.YtooockbfagkknaaDoorNestP
import Derived.Test.YtooockbfagkknaaDoorWordsW
namespace Go.Proofs.YtooockbfagkknaaDoor.syn
open Go.RowKit Go.Proofs.YtooockbfagkknaaDoor.sl Go.Proofs.YtooockbfagkknaaDoor.cls
theorem parse_cases (l : List UInt8) : (∃ L e p, parseF l = (L, e, p) ∧ e ≠ 0) ∨ (∃ L, parseF l = (L, 0, 0) ∧ rRight L = true) := by
  by_cases he : (parseF l).2.1 = 0
  · right
    unfold parseF at he ⊢
    by_cases hl : 120 < l.length
    · rw [if_pos hl] at he; cases he
    · rw [if_neg hl] at he ⊢
      have hG : (allF l).length ≤ 120 := by have := allGo_len l.length l; unfold allF; omega
      have e : parseG (allF l) = ((parseG (allF l)).1, 0, (parseG (allF l)).2.2) := by rw [← he]
      obtain ⟨h1, h2⟩ := parse_right ix hG e
      exact ⟨_, by rw [e, h2], h1⟩
  · exact .inl ⟨_, _, _, rfl, he⟩
theorem print_bytes {L : List Nd} (hr : rRight L = true) : (bsL (printR L)).length ≤ 1000000000000 := by
  have hf := right_fine hr
  unfold rRight at hr
  simp only [Bool.and_eq_true, beq_iff_eq, decide_eq_true_eq] at hr
  have h1 := text_len L (fun x hx => (hf x hx).1) 241 0 L.length hr.1.2
  have h2 := bsR_size (printR L)
  have h3 : (bsR (printR L)).size = (bsL (printR L)).length := by unfold bsR; simp [ByteArray.size]
  have h4 : (printR L).length = (textR L 241 0).1.length := rfl
  have := hr.1.1.2
  omega
theorem caps_bd : ∀ (l : List Nd) (g g' : Nat), capsGo l g = some g' → ∀ x ∈ l, x.op = 6 → (g : Int) + 1 ≤ x.cap ∧ x.cap ≤ g'
  | [], _, _, _, x, hx, _ => by cases hx
  | y :: l, g, g', h, x, hx, h6 => by
    rw [capsGo] at h
    have hc := caps_count
    by_cases hy : y.op = 6
    · rw [if_pos hy] at h
      split at h
      · rename_i hcap
        have hle := caps_count l _ _ h
        rcases List.mem_cons.1 hx with rfl | hx
        · omega
        · have := caps_bd l _ _ h x hx h6
          omega
      · cases h
    · rw [if_neg hy] at h
      rcases List.mem_cons.1 hx with rfl | hx
      · exact absurd h6 hy
      · exact caps_bd l _ _ h x hx h6
theorem right_caps {L : List Nd} (hr : rRight L = true) (hg : grpN L < 4) : ∀ x ∈ L, x.op = 6 → 1 ≤ x.cap ∧ x.cap ≤ 4 := by
  unfold rRight at hr
  simp only [Bool.and_eq_true, Option.isSome_iff_exists] at hr
  obtain ⟨_, g', h⟩ := hr
  intro x hx h6
  have h1 := caps_bd L 0 g' h x hx h6
  have h2 := caps_count L 0 g' h
  omega
/-- One node of nodes that can be read. -/
theorem Nrd.one {w : World} {b off c : Nat} {ls : List NdV} (h : Nrd w (some ⟨b, off, none⟩) c ls) {i : Nat} {y : NdV} (hy : ls[i]? = some y) : Nrd w (some ⟨b, off + i * 7, none⟩) (c - i) [y] := by
  have hi := lt_of_some hy
  have hle := h.rd.le
  have hmx := h.rd.max
  obtain ⟨_, hb, _⟩ := h.rd.at_ _ rfl (by omega)
  refine ⟨⟨fun e => (nomatch e), by simp; omega, by omega, fun ad e _ => ?_⟩, fun z hz => ?_⟩
  · cases e
    refine ⟨rfl, hb, fun j u hj => ?_⟩
    obtain ⟨b2, off2, e2, _, hc⟩ := h.rd.cells eN_len hy
    cases e2
    have hj2 : j < 7 := by
      have := lt_of_some hj
      simpa [flat, eN_len] using this
    have := hc j u hj2 (by simpa [flat] using hj)
    rw [← Nat.add_assoc] at this
    exact this
  · obtain rfl : z = y := by simpa using hz
    exact h.each z (List.mem_of_getElem? hy)
theorem sh_at {ls gs : List NdV} (hm : gs.map NdV.x = { nd 6 with cap := 1, kids := 1 } :: (ls.map NdV.x).map (shN 1)) {i : Nat} {y : NdV} (hy : ls[i]? = some y) : ∃ z, gs[i + 1]? = some z ∧ z.x = shN 1 y.x := by
  have h : (gs.map NdV.x)[i + 1]? = some (shN 1 y.x) := by
    rw [hm, List.getElem?_cons_succ, List.getElem?_map, List.getElem?_map, hy]
    rfl
  rwa [List.getElem?_map, Option.map_eq_some_iff] at h
theorem sh_head {ls gs : List NdV} (hm : gs.map NdV.x = { nd 6 with cap := 1, kids := 1 } :: (ls.map NdV.x).map (shN 1)) : gs.length = ls.length + 1 ∧ ∃ z, gs[0]? = some z ∧ z.x.op = 6 ∧ z.x.cap = 1 := by
  refine ⟨by have := congrArg List.length hm; simpa using this, ?_⟩
  have h : (gs.map NdV.x)[0]? = some { nd 6 with cap := 1, kids := 1 } := by rw [hm]; rfl
  rw [List.getElem?_map, Option.map_eq_some_iff] at h
  obtain ⟨z, h1, h2⟩ := h
  exact ⟨z, h1, by rw [h2]; rfl, by rw [h2]⟩
theorem Nrd.drew {w : World} {a : Option Addr} {c : Nat} {ls : List NdV} (h : Nrd w a c ls) : Nrd w.drew a c ls := ⟨rd_drew h.rd, fun y hy => ⟨(h.each y hy).1, rd_drew (h.each y hy).2.1, (h.each y hy).2.2⟩⟩
/-- A copy of a node, a group's number one more. -/
def upN (y : NdV) : NdV := ⟨shN 1 y.x, y.a, y.n, y.c⟩
theorem shN_kids (x : Nd) : (shN 1 x).r = x.r ∧ (shN 1 x).kids = x.kids := by unfold shN; split <;> exact ⟨rfl, rfl⟩
theorem upN_keep {y : NdV} (h : ¬ y.x.op = 6) : upN y = y := by unfold upN shN; rw [if_neg h]
theorem upN_cell {y : NdV} (h6 : y.x.op = 6) : Obj.cells #[.int .i64 y.x.op, .slice y.a y.n y.c, .int .i64 y.x.mn, .int .i64 y.x.mx, .bool y.x.lz, .int .i64 (y.x.cap + 1), .int .i64 y.x.kids] 31 = ncell (upN y) := by
  unfold upN shN
  rw [if_pos h6]
  rfl
theorem Nrd.up {w : World} {a : Option Addr} {c : Nat} {ls : List NdV} (h : Nrd w a c ls) {y : NdV} (hy : y ∈ ls) : Nrd (w.alloc (ncell (upN y))).drew (some ⟨w.heap.size, 0, none⟩) 1 [upN y] :=
  Nrd.drew (Nrd.built [upN y] 1 rfl rfl (by omega) fun z hz => by
    obtain rfl : z = upN y := by simpa using hz
    obtain ⟨h1, h2, h3, h4⟩ := h.each y hy
    have e := shN_kids y.x
    refine ⟨by show y.n = (shN 1 y.x).r.length; rw [e.1]; exact h1, by show Rd er w y.a (shN 1 y.x).r y.c; rw [e.1]; exact h2, by show (shN 1 y.x).r.length ≤ _; rw [e.1]; exact h3, by show (shN 1 y.x).kids ≤ _; rw [e.2]; exact h4⟩)
set_option maxHeartbeats 8000000 in
set_option maxRecDepth 100000 in
theorem nestedC (s : List UInt8) (hs : s.length ≤ 9223372036854775807) (w : World) (hT : Tab w) : Calls Tryd.prog 7 #[str s] w fun e w' => e = .returned (.bool true) ∧ Below w.heap.size w w' := by
  obtain ⟨bs, hbs⟩ : ∃ bs : ByteArray, bs = ⟨s.toArray⟩ := ⟨_, rfl⟩
  have sz : bs.size = s.length := by rw [hbs, str_size]
  have hsv : str s = .string bs := by rw [hbs]
  have HT := Lib.hid hT
  have RC := Lib.hid (fun (w' : World) (b : Below w.heap.size w w') => runsC w' (HT.out.kept b))
  have pc := readC s hs w
  rw [hsv] at pc ⊢
  have PCS := parse_cases s
  by_cases h116 : 116 < s.length
  · have i1 : (116 : Int) < (bs.size : Int) := by omega
    have i2 : (bs.size : Int) ≤ 9223372036854775807 := by omega
    clear hbs sz hsv hT h116 hs PCS
    rcases hq : parseF s with ⟨L, q, p⟩
    rw [hq] at pc
    have PC := Lib.hid pc
    clear pc hq
    by_cases hq0 : q = 0
    · have n1 : (q != 0) = false := by simp [hq0]
      clear hq0
      go_enter Tryd.func7, Tryd.ntmps7
      go_wp2_with fail
      refine PC.out.mono ?_
      rintro e w1 ⟨l1, c1, ls1, rfl, -, -, -, b1⟩
      have B1 := Lib.hid b1
      clear b1 PC
      go_wp2_with fail
      refine (RC.out w1 B1.out).mono ?_
      rintro e wz ⟨rfl, bz⟩
      have BZ := Lib.hid (B1.out.trans (bz.mono B1.out.size))
      clear bz
      go_wp2_with fail
      go_ret
      exact ⟨rfl, BZ.out⟩
    · have n1 : (q != 0) = true := by simpa using hq0
      clear hq0
      go_enter Tryd.func7, Tryd.ntmps7
      go_wp2_with fail
      refine PC.out.mono ?_
      rintro e w1 ⟨l1, c1, ls1, rfl, -, -, -, b1⟩
      have B1 := Lib.hid b1
      clear b1 PC
      go_wp2_with fail
      refine (RC.out w1 B1.out).mono ?_
      rintro e wz ⟨rfl, bz⟩
      have BZ := Lib.hid (B1.out.trans (bz.mono B1.out.size))
      clear bz
      go_wp2_with fail
      go_ret
      exact ⟨rfl, BZ.out⟩
  · have i1 : ¬ (116 : Int) < (bs.size : Int) := by omega
    have i2 : (bs.size : Int) ≤ 116 := by omega
    rcases PCS with ⟨L, q, p, hq, hq0⟩ | ⟨L, hq, hr⟩
    · rw [hq] at pc
      have PC := Lib.hid pc
      have n1 : (q != 0) = true := by simpa using hq0
      clear pc hq hq0 hbs sz hsv hT h116 hs
      go_enter Tryd.func7, Tryd.ntmps7
      go_wp2_with fail
      refine PC.out.mono ?_
      rintro e w1 ⟨l1, c1, ls1, rfl, -, -, -, b1⟩
      have B1 := Lib.hid b1
      clear b1 PC
      go_wp2_with fail
      refine (RC.out w1 B1.out).mono ?_
      rintro e wz ⟨rfl, bz⟩
      have BZ := Lib.hid (B1.out.trans (bz.mono B1.out.size))
      clear bz
      go_wp2_with fail
      go_ret
      exact ⟨rfl, BZ.out⟩
    · rw [hq] at pc
      have PC := Lib.hid pc
      have FB := fun h => free_bytes (s := s) (L := L) h hq
      have GB := fun h k => group_bytes (s := s) (L := L) h k hq
      have hrf : rightF L = true := (rRight_eq _).symm.trans hr
      have HRF := Lib.hid hrf
      have HR := Lib.hid hr
      have FB2 := Lib.hid (FB (by omega))
      have GB2 := Lib.hid (GB (by omega))
      have hpb := print_bytes hr
      have NC := Lib.hid (nestC (bsL (printR L)) hpb)
      have e40 : str ([40, 63, 58] ++ s ++ [41]) = .string (⟨#[40, 63, 58]⟩ ++ bs ++ ⟨#[41]⟩) := by
        rw [hbs]
        refine congrArg Value.string ?_
        apply ByteArray.ext
        simp
      have e41 : str ([40] ++ s ++ [41]) = .string (⟨#[40]⟩ ++ bs ++ ⟨#[41]⟩) := by
        rw [hbs]
        refine congrArg Value.string ?_
        apply ByteArray.ext
        simp
      have RA := Lib.hid (fun w' => readC ([40, 63, 58] ++ s ++ [41]) (by simp; omega) w')
      have RB := Lib.hid (fun w' => readC ([40] ++ s ++ [41]) (by simp; omega) w')
      rw [e40] at RA
      rw [e41] at RB
      generalize parseF ([40, 63, 58] ++ s ++ [41]) = ra at RA FB2
      generalize parseF ([40] ++ s ++ [41]) = rb at RB GB2
      have PRC := Lib.hid (fun (w' : World) (la : Option Addr) (lc : Nat) (ls : List NdV) (h : ls.map NdV.x = L) (N : Nrd w' la lc ls) (T : Tab w') => (by
        have := printC la lc ls w' N T
        rw [h, HRF.out, if_pos rfl] at this
        exact this : Calls Tryd.prog 14 #[.slice la ls.length lc] w' fun e w2 => e = .returned (.string (bsR (printR L))) ∧ Below w'.heap.size w' w2))
      have GRC := Lib.hid (fun (w' : World) (la : Option Addr) (lc : Nat) (ls : List NdV) (h : ls.map NdV.x = L) (N : Nrd w' la lc ls) => (by
        have := groupsC la lc ls w' N
        rw [h, HRF.out, if_pos rfl] at this
        exact this : Calls Tryd.prog 10 #[.slice la ls.length lc] w' fun e w2 => e = .returned (.int .i64 (grpN L : Int)) ∧ Below w'.heap.size w' w2))
      change Hid (∀ w', Calls Tryd.prog 15 #[.string (bsR (printR L))] w' _) at NC
      generalize bsR (printR L) = tb at NC PRC
      generalize nestB (bsL (printR L)) = nb at NC
      clear pc FB GB hrf hpb e40 e41 hq hbs sz hsv hT h116 hs hr HRF
      go_enter Tryd.func7, Tryd.ntmps7
      go_wp2_with fail
      refine PC.out.mono ?_
      rintro e w1 ⟨l1, c1, ls1, rfl, m1, n1, -, b1⟩
      have M1 := Lib.hid m1
      have N1 := Lib.hid n1
      have B1 := Lib.hid b1
      clear m1 n1 b1 PC
      go_wp2_with fail
      refine (PRC.out w1 l1 c1 ls1 M1.out N1.out (HT.out.kept B1.out)).mono ?_
      rintro e w2 ⟨rfl, b2⟩
      have N2 := Lib.hid (N1.out.kept b2)
      have B2 := Lib.hid (B1.out.trans (b2.mono B1.out.size))
      clear b2 N1 B1 PRC
      go_wp2_with fail
      refine (NC.out w2).mono ?_
      rintro e w3 ⟨rfl, rfl⟩
      by_cases hnb : 20 ≤ nb
      · go_wp2_with fail
        refine (RC.out _ B2.out).mono ?_
        rintro e wz ⟨rfl, bz⟩
        have BZ := Lib.hid (B2.out.trans (bz.mono B2.out.size))
        clear bz
        go_wp2_with fail
        go_ret
        exact ⟨rfl, BZ.out⟩
      · go_wp2_with fail
        refine (GRC.out _ l1 c1 ls1 M1.out N2.out).mono ?_
        rintro e w4 ⟨rfl, b4⟩
        have N4 := Lib.hid (N2.out.kept b4)
        have B4 := Lib.hid (B2.out.trans (b4.mono B2.out.size))
        clear b4 N2 B2 GRC
        by_cases hg4 : (4 : Int) ≤ (grpN L : Int)
        · go_wp2_with fail
          refine (RC.out _ B4.out).mono ?_
          rintro e wz ⟨rfl, bz⟩
          have BZ := Lib.hid (B4.out.trans (bz.mono B4.out.size))
          clear bz
          go_wp2_with fail
          go_ret
          exact ⟨rfl, BZ.out⟩
        · have hg : grpN L < 4 := by omega
          have GB3 := Lib.hid (GB2.out hg)
          have CP := Lib.hid (right_caps HR.out hg)
          clear GB2 HR
          generalize grpN L = gl at hg4 hg ⊢
          go_wp2_with fail
          refine (RA.out _).mono ?_
          rintro e w5 ⟨l5, c5, ls5, rfl, m5, n5, -, b5⟩
          have M5 := Lib.hid m5
          have N5 := Lib.hid n5
          have N5a := Lib.hid (N4.out.kept b5)
          have B5 := Lib.hid (B4.out.trans (b5.mono B4.out.size))
          clear m5 n5 b5 N4 B4 RA
          go_wp2_with fail
          refine (RB.out _).mono ?_
          rintro e w6 ⟨l6, c6, ls6, rfl, m6, n6, -, b6⟩
          have M6 := Lib.hid m6
          have N6 := Lib.hid n6
          have N6a := Lib.hid (N5a.out.kept b6)
          have N6b := Lib.hid (N5.out.kept b6)
          have B6 := Lib.hid (B5.out.trans (b6.mono B5.out.size))
          clear m6 n6 b6 N5 N5a B5 RB
          obtain ⟨ra1, ra2, ra3⟩ := ra
          obtain ⟨rb1, rb2, rb3⟩ := rb
          rcases FB2.out with hra | hra
          rotate_left
          · obtain rfl : ra2 = 10 := hra
            clear FB2 GB3
            go_wp2_with fail
            refine (RC.out _ B6.out).mono ?_
            rintro e wz ⟨rfl, bz⟩
            have BZ := Lib.hid (B6.out.trans (bz.mono B6.out.size))
            clear bz
            go_wp2_with fail
            go_ret
            exact ⟨rfl, BZ.out⟩
          · simp only [Prod.mk.injEq] at hra
            obtain ⟨rfl, rfl, rfl⟩ := hra
            rcases GB3.out with hrb | hrb
            rotate_left
            · obtain rfl : rb2 = 10 := hrb
              clear FB2 GB3
              go_wp2_with fail
              refine (RC.out _ B6.out).mono ?_
              rintro e wz ⟨rfl, bz⟩
              have BZ := Lib.hid (B6.out.trans (bz.mono B6.out.size))
              clear bz
              go_wp2_with fail
              go_ret
              exact ⟨rfl, BZ.out⟩
            · simp only [Prod.mk.injEq] at hrb
              obtain ⟨rfl, rfl, rfl⟩ := hrb
              clear FB2 GB3
              obtain ⟨hgl, z0, hz0, hz6, hz1⟩ := sh_head (ls := ls1) (gs := ls6) (by rw [M6.out, M1.out])
              have ME : Hid (ls6.map NdV.x = { nd 6 with cap := 1, kids := 1 } :: (ls1.map NdV.x).map (shN 1)) := Lib.hid (by rw [M6.out, M1.out])
              have CP2 : Hid (∀ x ∈ ls1.map NdV.x, x.op = 6 → 1 ≤ x.cap ∧ x.cap ≤ 4) := Lib.hid (by rw [M1.out]; exact CP.out)
              have NN := Lib.hid (nodesT l1 l5 c1 c5 ls1 ls5 w6 N6a.out N6b.out (by rw [M1.out, M5.out]))
              clear M1 M5 M6 N6b CP
              go_wp2_with fail
              refine NN.out.mono ?_
              rintro e w7 ⟨rfl, b7⟩
              have N7 := Lib.hid (N6.out.kept b7)
              have N7a := Lib.hid (N6a.out.kept b7)
              have B7 := Lib.hid (B6.out.trans (b7.mono B6.out.size))
              clear b7 N6 N6a B6 NN
              obtain ⟨bb, off, rfl, hbl, hc⟩ := N7.out.rd.cells eN_len hz0
              have q0 := hc 0 (.int .i64 6) (by omega) (by rw [← hz6]; rfl)
              have q5 := hc 5 (.int .i64 1) (by omega) (by rw [← hz1]; rfl)
              simp only [Nat.zero_mul, Nat.add_zero, Nat.zero_add] at q0 q5
              have hgl1 : ls6.length ≤ ls1.length + 1 := by omega
              have hgl2 : ls1.length + 1 ≤ ls6.length := by omega
              have hgl3 : ((ls6.length : Int) != (ls1.length : Int) + 1) = false := by simp; omega
              have hm1 := N7a.out.rd.max
              have hle1 := N7a.out.rd.le
              have hm2 := N7.out.rd.max
              have hle2 := N7.out.rd.le
              unfold maxLen at hm1 hm2
              clear hc hz0 hz6 hz1 hgl z0
              go_wp2_with fail
              go_loopg [12] ls1.length (fun gh i wx => ∃ j : Nat, j ≤ ls1.length ∧ gh = ls1.length - j ∧ i = .int .i64 j ∧ Below w7.heap.size w7 wx)
              case atStart => exact ⟨0, by omega, rfl, rfl, Below.refl _ _⟩
              case round =>
                obtain ⟨j, hj, rfl, rfl, b⟩ := hrel
                have BJ := Lib.hid b
                clear b
                by_cases hlt : j < ls1.length
                · obtain ⟨y, hy⟩ : ∃ y, ls1[j]? = some y := ⟨_, List.getElem?_eq_getElem hlt⟩
                  obtain ⟨z, hz, hzx⟩ := sh_at ME.out hy
                  have CY := Lib.hid (CP2.out y.x (List.mem_map_of_mem (List.mem_of_getElem? hy)))
                  obtain ⟨b1, o1, rfl, hb1, hc⟩ := (N7a.out.kept BJ.out).rd.cells eN_len hy
                  have p0 := hc 0 (.int .i64 y.x.op) (by omega) rfl
                  have p1 := hc 1 (.slice y.a y.n y.c) (by omega) rfl
                  have p2 := hc 2 (.int .i64 y.x.mn) (by omega) rfl
                  have p3 := hc 3 (.int .i64 y.x.mx) (by omega) rfl
                  have p4 := hc 4 (.bool y.x.lz) (by omega) rfl
                  have p5 := hc 5 (.int .i64 y.x.cap) (by omega) rfl
                  have p6 := hc 6 (.int .i64 y.x.kids) (by omega) rfl
                  simp only [Nat.add_zero] at p0
                  simp only [← Nat.add_assoc] at p1 p2 p3 p4 p5 p6
                  have HY := Lib.hid hy
                  have HZ := Lib.hid hz
                  have HZX := Lib.hid hzx
                  have i1 : (j : Int) < (ls1.length : Int) := by omega
                  have B2 := Lib.hid (BJ.out.alloc BJ.out.size (ncell y))
                  have OB := Lib.hid (heap_alloc_new wr (ncell y))
                  have s1 : IntKind.i64.wrap ((j : Int) + 1) = (j : Int) + 1 := IntWalk.i64_in _ (by omega)
                  have s2 : IntKind.i64.wrap ((j : Int) + 2) = (j : Int) + 2 := IntWalk.i64_in _ (by omega)
                  have s3 : (0 : Int) ≤ (j : Int) + 1 := by omega
                  have s4 : (j : Int) + 1 ≤ (j : Int) + 2 := by omega
                  have s5 : (j : Int) + 2 ≤ (c6 : Int) := by omega
                  have s6 : ((j : Int) + 1).toNat = j + 1 := by omega
                  have s7 : ((j : Int) + 2).toNat = j + 2 := by omega
                  have s8 : ¬ c6 = j + 1 := by omega
                  clear hy hz hzx hc
                  by_cases h6 : y.x.op = 6
                  · have n6 : (y.x.op == 6) = true := by simpa using h6
                    obtain ⟨cy1, cy2⟩ := CY.out h6
                    have H6 := Lib.hid h6
                    clear h6 CY
                    go_upto_region 16 with fail
                    have OU := upN_cell H6.out
                    rw [OU]
                    have OB3 := Lib.hid (heap_alloc_new wr (ncell (upN y)))
                    have B3 := Lib.hid (BJ.out.alloc BJ.out.size (ncell (upN y)))
                    clear H6 OU
                    generalize wr.alloc (ncell (upN y)) = W2 at OB3 B3 ⊢
                    have UP := Lib.hid (fun (W : World) (b : Below w7.heap.size w7 W) => Nrd.up (N7a.out.kept b) (List.mem_of_getElem? HY.out))
                    have ZX : Hid (z.x = (upN y).x) := HZX
                    clear HZX HY p0 p1 p2 p3 p4 p5 p6 n6 OB B2
                    generalize upN y = y2 at OB3 UP ZX
                    generalize wr.heap.size = Nb at OB3 ⊢
                    have d0 := cell_of_obj (o := 0) (u := .int .i64 y2.x.op) OB3.out rfl
                    have d1 := cell_of_obj (o := 1) (u := .slice y2.a y2.n y2.c) OB3.out rfl
                    have d2 := cell_of_obj (o := 2) (u := .int .i64 y2.x.mn) OB3.out rfl
                    have d3 := cell_of_obj (o := 3) (u := .int .i64 y2.x.mx) OB3.out rfl
                    have d4 := cell_of_obj (o := 4) (u := .bool y2.x.lz) OB3.out rfl
                    have d5 := cell_of_obj (o := 5) (u := .int .i64 y2.x.cap) OB3.out rfl
                    have d6 := cell_of_obj (o := 6) (u := .int .i64 y2.x.kids) OB3.out rfl
                    have NC := Lib.hid (nodesT (some ⟨W2.heap.size, 0, none⟩) (some ⟨bb, off + (j + 1) * 7, none⟩) 1 (c6 - (j + 1)) [y2] [z] _ (UP.out W2 B3.out) (Nrd.drew (Nrd.alloc (Nrd.one (N7.out.kept B3.out) HZ.out) _)) (congrArg (fun t => [t]) ZX.out.symm))
                    clear UP ZX HZ
                    go_region_held3 (fun w' => w'.cell? ⟨Nb, 0, none⟩ = some (.int .i64 y2.x.op) ∧ w'.cell? ⟨Nb, 1, none⟩ = some (.slice y2.a y2.n y2.c) ∧ w'.cell? ⟨Nb, 2, none⟩ = some (.int .i64 y2.x.mn) ∧ w'.cell? ⟨Nb, 3, none⟩ = some (.int .i64 y2.x.mx) ∧ w'.cell? ⟨Nb, 4, none⟩ = some (.bool y2.x.lz) ∧ w'.cell? ⟨Nb, 5, none⟩ = some (.int .i64 y2.x.cap) ∧ w'.cell? ⟨Nb, 6, none⟩ = some (.int .i64 y2.x.kids)) (first | exact ⟨d0, d1, d2, d3, d4, d5, d6⟩ | go_keep) (first | (go_at_call 9; refine NC.out.mono ?_; rintro e w8 ⟨rfl, b8⟩; have e0 := cell_past d0 b8; have e1 := cell_past d1 b8; have e2 := cell_past d2 b8; have e3 := cell_past d3 b8; have e4 := cell_past d4 b8; have e5 := cell_past d5 b8; have e6 := cell_past d6 b8; have B8 := Lib.hid (past_below B3.out b8 B3.out.size)))
                    clear d0 d1 d2 d3 d4 d5 d6 e0 e1 e2 e3 e4 e5 e6 b8 NC OB3
                    go_wp2_with fail
                    go_roundg (ls1.length - (j + 1))
                    case measure => omega
                    case rel => exact ⟨j + 1, by omega, rfl, by go_num, B8.out⟩
                  · have n6 : (y.x.op == 6) = false := by simpa using h6
                    have UK := Lib.hid (upN_keep h6)
                    clear h6 CY
                    go_upto_region 16 with fail
                    have OB3 : Hid ((wr.alloc (ncell y)).heap[wr.heap.size]? = some (ncell (upN y))) := Lib.hid (by rw [UK.out]; exact OB.out)
                    have B3 := Lib.hid B2.out
                    clear UK
                    generalize wr.alloc (ncell y) = W2 at OB3 B3 ⊢
                    have UP := Lib.hid (fun (W : World) (b : Below w7.heap.size w7 W) => Nrd.up (N7a.out.kept b) (List.mem_of_getElem? HY.out))
                    have ZX : Hid (z.x = (upN y).x) := HZX
                    clear HZX HY p0 p1 p2 p3 p4 p5 p6 n6 OB B2
                    generalize upN y = y2 at OB3 UP ZX
                    generalize wr.heap.size = Nb at OB3 ⊢
                    have d0 := cell_of_obj (o := 0) (u := .int .i64 y2.x.op) OB3.out rfl
                    have d1 := cell_of_obj (o := 1) (u := .slice y2.a y2.n y2.c) OB3.out rfl
                    have d2 := cell_of_obj (o := 2) (u := .int .i64 y2.x.mn) OB3.out rfl
                    have d3 := cell_of_obj (o := 3) (u := .int .i64 y2.x.mx) OB3.out rfl
                    have d4 := cell_of_obj (o := 4) (u := .bool y2.x.lz) OB3.out rfl
                    have d5 := cell_of_obj (o := 5) (u := .int .i64 y2.x.cap) OB3.out rfl
                    have d6 := cell_of_obj (o := 6) (u := .int .i64 y2.x.kids) OB3.out rfl
                    have NC := Lib.hid (nodesT (some ⟨W2.heap.size, 0, none⟩) (some ⟨bb, off + (j + 1) * 7, none⟩) 1 (c6 - (j + 1)) [y2] [z] _ (UP.out W2 B3.out) (Nrd.drew (Nrd.alloc (Nrd.one (N7.out.kept B3.out) HZ.out) _)) (congrArg (fun t => [t]) ZX.out.symm))
                    clear UP ZX HZ
                    go_region_held3 (fun w' => w'.cell? ⟨Nb, 0, none⟩ = some (.int .i64 y2.x.op) ∧ w'.cell? ⟨Nb, 1, none⟩ = some (.slice y2.a y2.n y2.c) ∧ w'.cell? ⟨Nb, 2, none⟩ = some (.int .i64 y2.x.mn) ∧ w'.cell? ⟨Nb, 3, none⟩ = some (.int .i64 y2.x.mx) ∧ w'.cell? ⟨Nb, 4, none⟩ = some (.bool y2.x.lz) ∧ w'.cell? ⟨Nb, 5, none⟩ = some (.int .i64 y2.x.cap) ∧ w'.cell? ⟨Nb, 6, none⟩ = some (.int .i64 y2.x.kids)) (first | exact ⟨d0, d1, d2, d3, d4, d5, d6⟩ | go_keep) (first | (go_at_call 9; refine NC.out.mono ?_; rintro e w8 ⟨rfl, b8⟩; have e0 := cell_past d0 b8; have e1 := cell_past d1 b8; have e2 := cell_past d2 b8; have e3 := cell_past d3 b8; have e4 := cell_past d4 b8; have e5 := cell_past d5 b8; have e6 := cell_past d6 b8; have B8 := Lib.hid (past_below B3.out b8 B3.out.size)))
                    clear d0 d1 d2 d3 d4 d5 d6 e0 e1 e2 e3 e4 e5 e6 b8 NC OB3
                    go_wp2_with fail
                    go_roundg (ls1.length - (j + 1))
                    case measure => omega
                    case rel => exact ⟨j + 1, by omega, rfl, by go_num, B8.out⟩
                · obtain rfl : j = ls1.length := by omega
                  go_wp2_with fail
                  refine (RC.out _ (B7.out.trans (BJ.out.mono B7.out.size))).mono ?_
                  rintro e wz ⟨rfl, bz⟩
                  have BZ := Lib.hid ((B7.out.trans (BJ.out.mono B7.out.size)).trans (bz.mono (B7.out.trans (BJ.out.mono B7.out.size)).size))
                  clear bz
                  go_wp2_with fail
                  go_ret
                  exact ⟨rfl, BZ.out⟩
end Go.Proofs.YtooockbfagkknaaDoor.syn
