/- SyntaxKept, walked. -/
import Derived.Test.YtooockbfagkknaaDoorCopyN
import Derived.Test.YtooockbfagkknaaDoorSynRuns
namespace Go.Proofs.YtooockbfagkknaaDoor.syn
open Go.RowKit Go.Proofs.YtooockbfagkknaaDoor.sl Go.Proofs.YtooockbfagkknaaDoor.cls
/-- A slice in memory of the call's own that may be written; what it holds is not said. -/
def Wrt (k : Nat) (E : TypeId) (B : Nat) (w : World) (v : Value) (n : Nat) : Prop :=
  (v = .slice none 0 0 ∧ n = 0) ∨ ∃ g cap cur, v = .slice (some ⟨g, 0, none⟩) n cap ∧ B ≤ g ∧ w.heap[g]? = some (.cells cur E) ∧ n ≤ cap ∧ cap ≤ maxLen ∧ cur.size = cap * k
section
variable {k : Nat} {E : TypeId} {B : Nat} {w w' : World} {v : Value} {n : Nat}
theorem Wrt.of {α : Type} {enc : α → List Value} {l : List α} (h : Own enc k E B w v l) : Wrt k E B w v l.length := by
  rcases h.2 with h | ⟨g, cap, cur, h1, h2, h3, h4, h5, h6, _⟩
  · exact .inl h
  · exact .inr ⟨g, cap, cur, h1, h2, h3, h4, h5, h6⟩
theorem Wrt.set (h : Wrt k E B w v n) (P o : Nat) (u : Value) : Wrt k E B (w.setCell ⟨P, o, none⟩ u) v n := by
  rcases h with h | ⟨g, cap, cur, h1, h2, h3, h4, h5, h6⟩
  · exact .inl h
  · right
    by_cases e : g = P
    · subst e
      exact ⟨g, cap, _, h1, h2, obj_set h3, h4, h5, by simpa using h6⟩
    · exact ⟨g, cap, cur, h1, h2, ((Kp.set P o w u).block g (heap_lt h3) (by intro e2; cases e2; exact e rfl)).trans h3, h4, h5, h6⟩
theorem Wrt.cell {g cap : Nat} (h : Wrt k E B w (.slice (some ⟨g, 0, none⟩) n cap) n) {o : Nat} (ho : o < n * k) : (∃ u, w.cell? ⟨g, o, none⟩ = some u) ∧ w.frozen? ⟨g, o, none⟩ = false := by
  rcases h with ⟨h, _⟩ | ⟨g2, cap2, cur, h1, _, h3, h4, _, h6⟩
  · cases h
  · cases h1
    have : n * k ≤ cap * k := Nat.mul_le_mul_right k h4
    exact ⟨⟨cur[o]'(by omega), cell_of_obj h3 (Array.getElem?_eq_getElem (by omega))⟩, frozen_of_obj h3⟩
end
/-- Nodes of the call's own, of which the first i were written over. -/
structure Sp (B : Nat) (w0 w : World) (v : Value) (ls : List NdV) (i : Nat) : Prop where
  own : ∃ ms : List NdV, ms.length = ls.length ∧ ms.drop i = ls.drop i ∧ OwnN B w v ms
  rng : ∀ y ∈ ls, Wrt 2 23 B w y.v y.n
  below : Below B w0 w
section
variable {B : Nat} {w0 w : World} {v : Value} {ls : List NdV} {i : Nat}
theorem Sp.start (h : NdsV B w v ls) (b : Below B w0 w) : Sp B w0 w v ls 0 :=
  ⟨⟨ls, rfl, rfl, h.1⟩, fun y hy => by
    have e : y.n = y.x.r.length := by
      obtain ⟨a, c, e, _⟩ := (h.2 y hy).rd
      unfold NdV.v at e
      simp only [Value.slice.injEq] at e
      exact e.2.1
    rw [e]
    exact Wrt.of (h.2 y hy), b⟩
theorem Sp.at_ (h : Sp B w0 w v ls i) {y : NdV} (hy : ls[i]? = some y) : ∃ g cap, v = .slice (some ⟨g, 0, none⟩) ls.length cap ∧ B ≤ g ∧ g < w.heap.size ∧ w.cell? ⟨g, i * 7 + 1, none⟩ = some y.v ∧ ∀ t < 7, (∃ u, w.cell? ⟨g, i * 7 + t, none⟩ = some u) ∧ w.frozen? ⟨g, i * 7 + t, none⟩ = false := by
  obtain ⟨ms, h1, h2, h3⟩ := h.own
  have hm : ms[i]? = some y := by
    have := congrArg (fun l => l[0]?) h2
    simpa [hy] using this
  have hne : ms ≠ [] := by rintro rfl; simp at hm
  obtain ⟨g, cap, e, hB, hg, _⟩ := h3.form hne
  subst e
  refine ⟨g, cap, by rw [h1], hB, hg, (Own.cellAt h3 rfl eN_len hm (t := 1) (by omega) rfl).1, fun t ht => ?_⟩
  have hlen : t < (eN y).length := by rw [eN_len]; exact ht
  obtain ⟨q1, q2⟩ := Own.cellAt h3 rfl eN_len hm ht (List.getElem?_eq_getElem hlen)
  exact ⟨⟨_, q1⟩, q2⟩
theorem Sp.elem (h : Sp B w0 w v ls i) {y : NdV} (hy : ls[i]? = some y) {j : Nat} (hj : j < y.n) : ∃ g, y.a = some ⟨g, 0, none⟩ ∧ y.v.ownBlock = some g ∧ y.n ≤ y.c ∧ y.c ≤ maxLen ∧ B ≤ g ∧ g < w.heap.size ∧ (∃ u, w.cell? ⟨g, j * 2, none⟩ = some u) ∧ w.frozen? ⟨g, j * 2, none⟩ = false ∧ (∃ u, w.cell? ⟨g, j * 2 + 1, none⟩ = some u) ∧ w.frozen? ⟨g, j * 2 + 1, none⟩ = false := by
  have hw := h.rng y (List.mem_of_getElem? hy)
  rcases hw with ⟨_, e⟩ | ⟨g, cap, cur, e, hB, hgc, h1, h2, h3⟩
  · omega
  · have e2 := e
    unfold NdV.v at e2
    simp only [Value.slice.injEq] at e2
    obtain ⟨ea, -, ec⟩ := e2
    subst ec
    have hw : Wrt 2 23 B w (.slice (some ⟨g, 0, none⟩) y.n y.c) y.n := .inr ⟨g, _, cur, rfl, hB, hgc, h1, h2, h3⟩
    have c0 := hw.cell (o := j * 2) (by omega)
    have c1 := hw.cell (o := j * 2 + 1) (by omega)
    exact ⟨g, ea, by rw [e]; rfl, h1, h2, hB, heap_lt hgc, c0.1, c0.2, c1.1, c1.2⟩
theorem take_bytes (s : List UInt8) (n : Nat) : Value.string ((⟨s.toArray⟩ : ByteArray).extract 0 n) = str (s.take n) := by
  refine congrArg Value.string ?_
  apply ByteArray.ext
  simp
/-- A place of a node's ranges is written. -/
theorem Sp.inner (h : Sp B w0 w v ls i) {y : NdV} (hy : y ∈ ls) {g : Nat} (hg : y.v.ownBlock = some g) (o : Nat) (u : Value) : Sp B w0 (w.setCell ⟨g, o, none⟩ u) v ls i := by
  obtain ⟨ms, h1, h2, h3⟩ := h.own
  have hw := h.rng y hy
  rcases hw with ⟨e, _⟩ | ⟨g2, cap, cur, e, hB, hgc, _⟩
  · rw [e] at hg; cases hg
  · rw [e] at hg
    obtain rfl : g2 = g := by simpa [Value.ownBlock] using hg
    refine ⟨⟨ms, h1, h2, Own.blk h3 fun P hP => (Kp.set g2 o w u).block P (h3.lt P hP).2 ?_⟩, fun z hz => (h.rng z hz).set _ _ _, set_below h.below hB⟩
    intro e2
    cases e2
    exact own_ne h3 hgc (by decide) hP
/-- The node at i is written over. -/
theorem Sp.over (h : Sp B w0 w v ls i) {y : NdV} (hy : ls[i]? = some y) {P : Nat} (hP : v.ownBlock = some P) :
    Sp B w0 (((((((w.setCell ⟨P, i * 7, none⟩ (.int .i64 (-3))).setCell ⟨P, i * 7 + 1, none⟩ (.slice none 0 0)).setCell ⟨P, i * 7 + 2, none⟩ (.int .i64 0)).setCell ⟨P, i * 7 + 3, none⟩ (.int .i64 0)).setCell ⟨P, i * 7 + 4, none⟩ (.bool false)).setCell ⟨P, i * 7 + 5, none⟩ (.int .i64 0)).setCell ⟨P, i * 7 + 6, none⟩ (.int .i64 0)) v ls (i + 1) := by
  obtain ⟨ms, h1, h2, h3⟩ := h.own
  have hm : ms[i]? = some y := by
    have := congrArg (fun l => l[0]?) h2
    simpa [hy] using this
  have hne : ms ≠ [] := by rintro rfl; simp at hm
  obtain ⟨g, cap, e, hB, hg, _⟩ := h3.form hne
  subst e
  obtain rfl : g = P := by simpa [Value.ownBlock] using hP
  have hi := lt_of_some hm
  obtain ⟨⟨yo, yr, ymn, ymx, ylz, ycap, yk⟩, ya, yn, yc⟩ := y
  have a0 := Own.store h3 rfl eN_len hm (t := 0) (u := .int .i64 (-3)) (y := ⟨⟨-3, yr, ymn, ymx, ylz, ycap, yk⟩, ya, yn, yc⟩) (by omega) rfl
  have a1 := Own.store a0 (by simp) eN_len (List.getElem?_set_self hi) (t := 1) (u := .slice none 0 0) (y := ⟨⟨-3, yr, ymn, ymx, ylz, ycap, yk⟩, none, 0, 0⟩) (by omega) rfl
  have a2 := Own.store a1 (by simp) eN_len (List.getElem?_set_self (by simpa using hi)) (t := 2) (u := .int .i64 0) (y := ⟨⟨-3, yr, 0, ymx, ylz, ycap, yk⟩, none, 0, 0⟩) (by omega) rfl
  have a3 := Own.store a2 (by simp) eN_len (List.getElem?_set_self (by simpa using hi)) (t := 3) (u := .int .i64 0) (y := ⟨⟨-3, yr, 0, 0, ylz, ycap, yk⟩, none, 0, 0⟩) (by omega) rfl
  have a4 := Own.store a3 (by simp) eN_len (List.getElem?_set_self (by simpa using hi)) (t := 4) (u := .bool false) (y := ⟨⟨-3, yr, 0, 0, false, ycap, yk⟩, none, 0, 0⟩) (by omega) rfl
  have a5 := Own.store a4 (by simp) eN_len (List.getElem?_set_self (by simpa using hi)) (t := 5) (u := .int .i64 0) (y := ⟨⟨-3, yr, 0, 0, false, 0, yk⟩, none, 0, 0⟩) (by omega) rfl
  have a6 := Own.store a5 (by simp) eN_len (List.getElem?_set_self (by simpa using hi)) (t := 6) (u := .int .i64 0) (y := ⟨⟨-3, yr, 0, 0, false, 0, 0⟩, none, 0, 0⟩) (by omega) rfl
  simp only [List.set_set, Nat.add_zero] at a6
  refine ⟨⟨_, by simpa using h1, ?_, a6⟩, fun z hz => ?_, ?_⟩
  · rw [List.drop_set_of_lt (by omega)]
    have := congrArg (List.drop 1) h2
    simpa [List.drop_drop] using this
  · exact (((((((h.rng z hz).set _ _ _).set _ _ _).set _ _ _).set _ _ _).set _ _ _).set _ _ _).set _ _ _
  · exact set_below (set_below (set_below (set_below (set_below (set_below (set_below h.below hB) hB) hB) hB) hB) hB) hB
end
set_option maxHeartbeats 8000000 in
set_option maxRecDepth 100000 in
theorem keptC (s : List UInt8) (hs : s.length ≤ 9223372036854775807) (w : World) (hT : Tab w) : Calls Tryd.prog 6 #[str s] w fun e w' => e = .returned (.bool true) ∧ Below w.heap.size w w' := by
  obtain ⟨bs, hbs⟩ : ∃ bs : ByteArray, bs = ⟨s.toArray⟩ := ⟨_, rfl⟩
  have sz : bs.size = s.length := by rw [hbs, str_size]
  have hsv : str s = .string bs := by rw [hbs]
  have HT := Lib.hid hT
  have RC := Lib.hid (fun (w' : World) (b : Below w.heap.size w w') => runsC w' (HT.out.kept b))
  rw [hsv]
  have i2 : (bs.size : Int) ≤ 9223372036854775807 := by omega
  have HBS := Lib.hid hbs
  have SZ := Lib.hid sz
  clear hbs sz hsv hT hs
  go_enter Tryd.func6, Tryd.ntmps6
  go_upto_if 17 with fail
  go_cut [0] (fun s0 wx => ∃ t : List UInt8, s0 = str t ∧ t.length ≤ 200 ∧ wx = w)
  case first =>
    by_cases h200 : 200 < bs.size
    · have i1 : (200 : Int) < (bs.size : Int) := by omega
      go_wp2_with fail
      go_meet
      exact ⟨s.take 200, by rw [HBS.out]; exact take_bytes s 200, by simp; omega, rfl⟩
    · have i1 : ¬ (200 : Int) < (bs.size : Int) := by omega
      go_wp2_with fail
      go_meet
      exact ⟨s, by rw [HBS.out], by have := SZ.out; omega, rfl⟩
  case rest =>
    obtain ⟨t, rfl, ht, rfl⟩ := hcut
    clear HBS SZ i2 bs
    have PC := Lib.hid (fun w' => readC t (by omega) w')
    have htl : (parseF t).1.length ≤ 480 := by
      rcases parse_fine t with h | ⟨_, _, h⟩
      · rw [h]; simp
      · unfold rRight at h
        simp only [Bool.and_eq_true, decide_eq_true_eq] at h
        exact h.1.1.2
    have HF := Lib.hid (fine_parse t)
    generalize parseF t = r at PC htl HF
    generalize str t = sv at PC ⊢
    clear ht t
    obtain ⟨L, q, p⟩ := r
    simp only at htl
    go_wp2_with fail
    refine (PC.out _).mono ?_
    rintro e w1 ⟨l1, c1, ls1, rfl, m1, n1, -, b1⟩
    have hl1 : ls1.length ≤ 480 := by
      have := congrArg List.length m1
      rw [List.length_map] at this
      simp only at this
      omega
    have M1 : Hid (ls1.map NdV.x = L) := Lib.hid m1
    have N1 := Lib.hid n1
    have B1 := Lib.hid b1
    clear m1 n1 b1
    go_wp2_with fail
    refine (copyNodesC l1 c1 ls1 w1 N1.out (by omega)).mono ?_
    rintro e w2 ⟨v2, rfl, n2, b2⟩
    have N2 := Lib.hid n2
    have N2a := Lib.hid (N1.out.kept b2)
    have B2 := Lib.hid (B1.out.trans (b2.mono B1.out.size))
    clear n2 b2 N1 B1
    go_wp2_with fail
    refine (PC.out _).mono ?_
    rintro e w3 ⟨l3, c3, ls3, rfl, m3, n3, ⟨ls, hls, hnv⟩, b3⟩
    have hl3 : ls.length = ls3.length := by
      have h1 := congrArg List.length m3
      have h2 := congrArg List.length hls
      rw [List.length_map] at h1 h2
      omega
    have hl4 : ls3.length ≤ 480 := by
      have h1 := congrArg List.length m3
      rw [List.length_map] at h1
      simp only at h1
      omega
    have SP := Lib.hid (Sp.start hnv b3)
    have HL3 := Lib.hid hl3
    clear m3 n3 hls hnv b3 hl3
    go_wp2_with fail
    go_loopg [10] ls3.length (fun gh ci wr => ∃ i : Nat, i ≤ ls3.length ∧ gh = ls3.length - i ∧ ci = .int .i64 i ∧ Sp w2.heap.size w2 wr (.slice l3 ls3.length c3) ls i)
    case atStart => exact ⟨0, Nat.zero_le _, rfl, rfl, SP.out⟩
    case round =>
      clear SP
      obtain ⟨i, hi, rfl, rfl, sp⟩ := hrel
      have SP := Lib.hid sp
      clear sp
      by_cases hlt : i < ls3.length
      · obtain ⟨y, hy⟩ : ∃ y, ls[i]? = some y := ⟨_, List.getElem?_eq_getElem (by rw [HL3.out]; exact hlt)⟩
        obtain ⟨P, cap, ev, hP, hPs, q1, qs⟩ := SP.out.at_ hy
        rw [HL3.out] at ev
        simp only [Value.slice.injEq] at ev
        obtain ⟨rfl, -, rfl⟩ := ev
        have HY := Lib.hid hy
        have hj1 : (i : Int) < (ls3.length : Int) := by omega
        replace q1 : wr.cell? ⟨P, i * 7 + 1, none⟩ = some (.slice y.a y.n y.c) := q1
        have QS := Lib.hid qs
        clear hy qs
        go_wp2_with fail
        go_loopg [11] y.n (fun gh cj wx => ∃ j : Nat, j ≤ y.n ∧ gh = y.n - j ∧ cj = .int .i64 j ∧ Sp w2.heap.size w2 wx (.slice (some ⟨P, 0, none⟩) ls3.length c3) ls i)
        case atStart => exact ⟨0, Nat.zero_le _, rfl, rfl, SP.out⟩
        case round =>
          clear SP q1 QS
          obtain ⟨j, hj, rfl, rfl, sp⟩ := hrel
          have SP := Lib.hid sp
          obtain ⟨P2, cap2, ev, -, -, q1, qs⟩ := sp.at_ HY.out
          rw [HL3.out] at ev
          simp only [Value.slice.injEq, Option.some.injEq, Addr.mk.injEq, and_true] at ev
          obtain ⟨rfl, -⟩ := ev
          replace q1 : wr.cell? ⟨P, i * 7 + 1, none⟩ = some (.slice y.a y.n y.c) := q1
          by_cases hlt2 : j < y.n
          · obtain ⟨g, hya, hyo, hyc, hym, hgB, hgs, ⟨u0, c0⟩, f0, ⟨u1, c1⟩, f1⟩ := sp.elem HY.out hlt2
            rw [hya] at q1
            have HYO := Lib.hid hyo
            have hj2 : (j : Int) < (y.n : Int) := by omega
            unfold maxLen at hym
            have SA := Lib.hid ((SP.out.inner (List.mem_of_getElem? HY.out) HYO.out (j * 2) (.int .i32 (-1))).inner (List.mem_of_getElem? HY.out) HYO.out (j * 2 + 1) (.int .i32 (-2)))
            clear sp hya hyo qs
            go_wp2_with fail
            go_roundg (y.n - (j + 1))
            case measure => omega
            case rel => exact ⟨j + 1, by omega, rfl, by go_num, SA.out⟩
          · obtain rfl : j = y.n := by omega
            obtain ⟨⟨u0, d0⟩, f0⟩ := qs 0 (by omega)
            obtain ⟨⟨u1, d1⟩, f1⟩ := qs 1 (by omega)
            obtain ⟨⟨u2, d2⟩, f2⟩ := qs 2 (by omega)
            obtain ⟨⟨u3, d3⟩, f3⟩ := qs 3 (by omega)
            obtain ⟨⟨u4, d4⟩, f4⟩ := qs 4 (by omega)
            obtain ⟨⟨u5, d5⟩, f5⟩ := qs 5 (by omega)
            obtain ⟨⟨u6, d6⟩, f6⟩ := qs 6 (by omega)
            simp only [Nat.add_zero] at d0 f0
            have SA := Lib.hid (sp.over HY.out (P := P) rfl)
            clear sp qs SP
            go_wp2_with fail
            go_roundg (ls3.length - (i + 1))
            case measure => omega
            case rel => exact ⟨i + 1, by omega, rfl, by go_num, SA.out⟩
      · obtain rfl : i = ls3.length := by omega
        have B4 := Lib.hid (B2.out.trans (SP.out.below.mono B2.out.size))
        have N4 := Lib.hid (N2.out.kept SP.out.below)
        have N4a := Lib.hid (N2a.out.kept SP.out.below)
        clear SP B2 N2 N2a
        go_wp2_with fail
        refine (PC.out _).mono ?_
        rintro e w5 ⟨l5, c5, ls5, rfl, m5, n5, -, b5⟩
        have M5 : Hid (ls5.map NdV.x = L) := Lib.hid m5
        have N5 := Lib.hid n5
        have B5 := Lib.hid (B4.out.trans (b5.mono B4.out.size))
        have N5a := Lib.hid (N4a.out.kept b5)
        obtain ⟨la, lca, lsa, eva, hma, nra⟩ := (N4.out.kept b5).nrd (by rw [M1.out]; exact HF.out)
        subst eva
        have NA := Lib.hid nra
        have MA := Lib.hid hma
        clear m5 n5 b5 N4 N4a B4 nra hma
        go_wp2_with fail
        refine (nodesT _ _ _ _ ls1 lsa w5 N5a.out NA.out MA.out.symm).mono ?_
        rintro e w6 ⟨rfl, b6⟩
        have N6 := Lib.hid (N5.out.kept b6)
        have NA6 := Lib.hid (NA.out.kept b6)
        have B6 := Lib.hid (B5.out.trans (b6.mono B5.out.size))
        clear b6 N5 NA B5 N5a
        go_wp2_with fail
        refine (nodesT _ _ _ _ ls5 lsa w6 N6.out NA6.out (by rw [M5.out, MA.out, M1.out])).mono ?_
        rintro e w7 ⟨rfl, b7⟩
        have B7 := Lib.hid (B6.out.trans (b7.mono B6.out.size))
        clear b7
        go_wp2_with fail
        refine (RC.out _ B7.out).mono ?_
        rintro e w8 ⟨rfl, b8⟩
        have B8 := Lib.hid (B7.out.trans (b8.mono B7.out.size))
        clear b8
        go_wp2_with fail
        go_ret
        exact ⟨rfl, B8.out⟩
end Go.Proofs.YtooockbfagkknaaDoor.syn
