/- SyntaxBack, walked. -/
import Derived.Test.YtooockbfagkknaaDoorValid
import Derived.Test.YtooockbfagkknaaDoorWhere
import Derived.Test.YtooockbfagkknaaDoorNestedW
import Derived.Laws.Closers25b
namespace Go.Proofs.YtooockbfagkknaaDoor.syn
open Go.RowKit Go.Proofs.YtooockbfagkknaaDoor.sl Go.Proofs.YtooockbfagkknaaDoor.cls
theorem take_bytes2 (s : List UInt8) (n : Nat) : Value.string ((⟨s.toArray⟩ : ByteArray).extract 0 n) = str (s.take n) := by
  refine congrArg Value.string ?_
  apply ByteArray.ext
  simp
theorem back_cases (l : List UInt8) : (∃ e p, parseF l = ([], e, p) ∧ e ≠ 0 ∧ 0 ≤ p ∧ p ≤ (l.length : Int)) ∨ (∃ L, parseF l = (L, 0, 0) ∧ rRight L = true) := by
  have hp := parse_at l
  rcases parse_fine l with h | ⟨h1, h2, h3⟩
  · by_cases he : (parseF l).2.1 = 0
    · exfalso
      unfold parseF at he h
      by_cases hl : 120 < l.length
      · rw [if_pos hl] at he; cases he
      · rw [if_neg hl] at he h
        have hG : (allF l).length ≤ 120 := by have := allGo_len l.length l; unfold allF; omega
        have e : parseG (allF l) = ((parseG (allF l)).1, 0, (parseG (allF l)).2.2) := by rw [← he]
        have hr := (parse_right ix hG e).1
        rw [h] at hr
        exact absurd hr (by decide)
    · exact .inl ⟨_, _, by rw [← h], he, hp⟩
  · refine .inr ⟨(parseF l).1, ?_, h3⟩
    rcases hq : parseF l with ⟨a, b, c⟩
    rw [hq] at h1 h2
    simp only at h1 h2
    rw [h1, h2]
set_option maxHeartbeats 8000000 in
set_option maxRecDepth 100000 in
theorem backC (la : Option Addr) (lc : Nat) (ls : List NdV) (s : List UInt8) (hs : s.length ≤ 9223372036854775807) (w : World) (N : Nrd w la lc ls) (hT : Tab w) : Calls Tryd.prog 4 #[.slice la ls.length lc, str s] w fun e w' => e = .returned (.bool true) ∧ Below w.heap.size w w' := by
  obtain ⟨bs, hbs⟩ : ∃ bs : ByteArray, bs = ⟨s.toArray⟩ := ⟨_, rfl⟩
  have sz : bs.size = s.length := by rw [hbs, str_size]
  have hsv : str s = .string bs := by rw [hbs]
  have HT := Lib.hid hT
  have RC := Lib.hid (fun (w' : World) (b : Below w.heap.size w w') => runsC w' (HT.out.kept b))
  rw [hsv]
  have i2 : (bs.size : Int) ≤ 9223372036854775807 := by omega
  have HBS := Lib.hid hbs
  have SZ := Lib.hid sz
  have pc := printC la lc ls w N hT
  rw [← rRight_eq] at pc
  have HN := Lib.hid N
  clear hbs sz hsv hT hs N
  obtain ⟨tb, htb⟩ : ∃ tb, tb = (if rRight (ls.map NdV.x) = true then bsR (printR (ls.map NdV.x)) else ⟨#[]⟩) := ⟨_, rfl⟩
  have HTB := Lib.hid htb
  rw [← htb] at pc
  have PC := Lib.hid pc
  clear pc htb
  cases hr : rRight (ls.map NdV.x)
  · have ht : tb = ⟨#[]⟩ := by rw [HTB.out, hr]; rfl
    subst ht
    clear hr
    go_enter Tryd.func4, Tryd.ntmps4
    go_wp2_with fail
    refine PC.out.mono ?_
    rintro e w1 ⟨rfl, b1⟩
    have B1 := Lib.hid b1
    have N1 := Lib.hid (HN.out.kept b1)
    clear b1 PC HN
    have B9 := B1
    have N9 := N1
    clear B1 N1
    clear HTB
    go_upto_if 46 with fail
    go_cut [1] (fun s1 wx => ∃ t : List UInt8, s1 = str t ∧ t.length ≤ 300 ∧ Below w.heap.size w wx)
    case first =>
      by_cases h300 : 300 < bs.size
      · have i1 : (300 : Int) < (bs.size : Int) := by omega
        go_wp2_with fail
        go_meet
        exact ⟨s.take 300, by rw [HBS.out]; exact take_bytes2 s 300, by simp; omega, B9.out⟩
      · have i1 : ¬ (300 : Int) < (bs.size : Int) := by omega
        go_wp2_with fail
        go_meet
        exact ⟨s, by rw [HBS.out], by have := SZ.out; omega, B9.out⟩
    case rest =>
      obtain ⟨t, rfl, ht, b⟩ := hcut
      have BB := Lib.hid b
      clear b HBS SZ i2 B9 N9
      have PC := Lib.hid (fun w' => readC t (by omega) w')
      have BC := back_cases t
      have STL : ∃ ts : ByteArray, str t = .string ts ∧ ts.size = t.length := ⟨⟨t.toArray⟩, rfl, str_size t⟩
      obtain ⟨ts, hts, htl⟩ := STL
      rw [hts] at PC ⊢
      rcases BC with ⟨q, p, hq, hq0, hp0, hp1⟩ | ⟨L, hq, hr2⟩
      · rw [hq] at PC
        have n1 : (q != 0) = true := by simpa using hq0
        have hp2 : p ≤ (ts.size : Int) := by omega
        have hz : (ts.size : Int) ≤ 300 := by omega
        clear hq hq0 hts ht hp1 htl
        go_wp2_with fail
        refine (PC.out _).mono ?_
        rintro e w5 ⟨l5, c5, ls5, rfl, m5, n5, -, b5⟩
        obtain rfl : ls5 = [] := by simpa using m5
        have B5 := Lib.hid (BB.out.trans (b5.mono BB.out.size))
        clear b5 m5 n5 PC
        go_wp2_with fail
        refine (RC.out _ B5.out).mono ?_
        rintro e w6 ⟨rfl, b6⟩
        have B6 := Lib.hid (B5.out.trans (b6.mono B5.out.size))
        clear b6
        go_wp2_with fail
        go_ret
        exact ⟨rfl, B6.out⟩
      · rw [hq] at PC
        have HR2 := Lib.hid hr2
        have HRF := Lib.hid ((rRight_eq L).symm.trans hr2)
        have HNE := Lib.hid (print_nonempty hr2)
        have HPB := Lib.hid (print_bytes hr2)
        have HBP := Lib.hid (back_parse hr2)
        clear hq hts ht htl hr2
        go_wp2_with fail
        refine (PC.out _).mono ?_
        rintro e w5 ⟨l5, c5, ls5, rfl, m5, n5, -, b5⟩
        have M5 : Hid (ls5.map NdV.x = L) := Lib.hid m5
        have N5 := Lib.hid n5
        have B5 := Lib.hid (BB.out.trans (b5.mono BB.out.size))
        clear b5 m5 n5 PC BB
        have pr := printC l5 c5 ls5 w5 N5.out (HT.out.kept B5.out)
        rw [M5.out, HRF.out, if_pos rfl] at pr
        have PR := Lib.hid pr
        clear pr
        go_wp2_with fail
        refine PR.out.mono ?_
        rintro e w6 ⟨rfl, b6⟩
        have N6 := Lib.hid (N5.out.kept b6)
        have B6 := Lib.hid (B5.out.trans (b6.mono B5.out.size))
        clear b6 PR N5 B5
        have PC2 := Lib.hid (fun w' => readC (bsL (printR L)) (by have := HPB.out; omega) w')
        have NC2 := Lib.hid (nestC (bsL (printR L)) HPB.out)
        have hz : (bsR (printR L)).size = (bsL (printR L)).length := str_size _
        have hz1 := HPB.out
        have hz2 : 0 < (bsL (printR L)).length := List.length_pos_iff.2 HNE.out
        change Hid (∀ w', Calls Tryd.prog 8 #[.string (bsR (printR L))] w' _) at PC2
        change Hid (∀ w', Calls Tryd.prog 15 #[.string (bsR (printR L))] w' _) at NC2
        have HT2 : Hid (bsR (printR L) = ⟨(bsL (printR L)).toArray⟩) := Lib.hid rfl
        generalize bsR (printR L) = tb2 at PC2 NC2 hz HT2 ⊢
        generalize nestB (bsL (printR L)) = nb at NC2 HBP
        have RNC := Lib.hid (fun w' (N : Nrd w' l5 c5 ls5) => (by
          have := rightNC l5 c5 ls5 w' N
          rw [M5.out, HRF.out] at this
          exact this : Calls Tryd.prog 13 #[.slice l5 ls5.length c5] w' fun e w2 => e = .returned (.bool true) ∧ Below w'.heap.size w' w2))
        have ht1 : ¬ tb2.toList = [] := fun e => by
          rw [toList_nil_iff_emptyBytes] at e
          rw [e] at hz
          have : (ByteArray.empty).size = 0 := rfl
          omega
        have ht2 : (!tb2.toList.isEmpty) = true := by simpa using ht1
        have hz3 : (tb2.size : Int) ≤ 1000000000000 := by omega
        by_cases hA : 120 < tb2.size
        · have i3 : decide ((120 : Int) < (tb2.size : Int)) = true := by simp; omega
          generalize parseF (bsL (printR L)) = pq at PC2
          obtain ⟨L2, q2, p2⟩ := pq
          clear HBP hz hz1 hz2 hA HNE HPB
          go_wp2_with fail
          refine (PC2.out _).mono ?_
          rintro e w7 ⟨l7, c7, ls7, rfl, m7, n7, -, b7⟩
          have M7 := Lib.hid m7
          have N7a := Lib.hid n7
          have N7 := Lib.hid (N6.out.kept b7)
          have B7 := Lib.hid (B6.out.trans (b7.mono B6.out.size))
          clear b7 m7 n7 N6 B6 PC2
          go_wp2_with fail
          refine (RNC.out _ N7.out).mono ?_
          rintro e w8 ⟨rfl, b8⟩
          have N8 := Lib.hid (N7.out.kept b8)
          have N8a := Lib.hid (N7a.out.kept b8)
          have B8 := Lib.hid (B7.out.trans (b8.mono B7.out.size))
          clear b8 N7 N7a B7 RNC
          go_wp2_with fail
          refine (RC.out _ B8.out).mono ?_
          rintro e wz ⟨rfl, bz⟩
          have BZ := Lib.hid (B8.out.trans (bz.mono B8.out.size))
          clear bz
          go_wp2_with fail
          go_ret
          exact ⟨rfl, BZ.out⟩
        · have i3 : decide ((120 : Int) < (tb2.size : Int)) = false := by simp; omega
          by_cases hB : 20 < nb
          · have i4 : decide (20 < nb) = true := by simpa using hB
            generalize parseF (bsL (printR L)) = pq at PC2
            obtain ⟨L2, q2, p2⟩ := pq
            clear HBP hz hz1 hz2 hA hB HNE HPB
            go_wp2_with fail
            refine (PC2.out _).mono ?_
            rintro e w7 ⟨l7, c7, ls7, rfl, m7, n7, -, b7⟩
            have M7 := Lib.hid m7
            have N7a := Lib.hid n7
            have N7 := Lib.hid (N6.out.kept b7)
            have B7 := Lib.hid (B6.out.trans (b7.mono B6.out.size))
            clear b7 m7 n7 N6 B6 PC2
            go_wp2_with fail
            refine (RNC.out _ N7.out).mono ?_
            rintro e w8 ⟨rfl, b8⟩
            have N8 := Lib.hid (N7.out.kept b8)
            have N8a := Lib.hid (N7a.out.kept b8)
            have B8 := Lib.hid (B7.out.trans (b8.mono B7.out.size))
            clear b8 N7 N7a B7 RNC
            go_wp2_with fail
            refine (NC2.out w8).mono ?_
            rintro e w9 ⟨rfl, rfl⟩
            go_wp2_with fail
            refine (RC.out _ B8.out).mono ?_
            rintro e wz ⟨rfl, bz⟩
            have BZ := Lib.hid (B8.out.trans (bz.mono B8.out.size))
            clear bz
            go_wp2_with fail
            go_ret
            exact ⟨rfl, BZ.out⟩
          · have i4 : decide (20 < nb) = false := by simpa using hB
            have hbp := HBP.out (by omega) (by omega)
            rw [hbp] at PC2
            clear HBP hz hz1 hz2 hA hB HNE HPB hbp
            go_wp2_with fail
            refine (PC2.out _).mono ?_
            rintro e w7 ⟨l7, c7, ls7, rfl, m7, n7, -, b7⟩
            have M7 := Lib.hid m7
            have N7a := Lib.hid n7
            have N7 := Lib.hid (N6.out.kept b7)
            have B7 := Lib.hid (B6.out.trans (b7.mono B6.out.size))
            clear b7 m7 n7 N6 B6 PC2
            go_wp2_with fail
            refine (RNC.out _ N7.out).mono ?_
            rintro e w8 ⟨rfl, b8⟩
            have N8 := Lib.hid (N7.out.kept b8)
            have N8a := Lib.hid (N7a.out.kept b8)
            have B8 := Lib.hid (B7.out.trans (b8.mono B7.out.size))
            clear b8 N7 N7a B7 RNC
            go_wp2_with fail
            refine (NC2.out w8).mono ?_
            rintro e w9 ⟨rfl, rfl⟩
            go_wp2_with fail
            refine (nodesT l5 l7 c5 c7 ls5 ls7 _ N8.out N8a.out (by rw [M5.out, M7.out])).mono ?_
            rintro e w10 ⟨rfl, b10⟩
            have B10 := Lib.hid (B8.out.trans (b10.mono B8.out.size))
            clear b10
            go_wp2_with fail
            refine (RC.out _ B10.out).mono ?_
            rintro e wz ⟨rfl, bz⟩
            have BZ := Lib.hid (B10.out.trans (bz.mono B10.out.size))
            clear bz
            go_wp2_with fail
            go_ret
            exact ⟨rfl, BZ.out⟩
  · have ht : tb = bsR (printR (ls.map NdV.x)) := by rw [HTB.out, hr, if_pos rfl]
    subst ht
    have HNE0 := Lib.hid (print_nonempty hr)
    have hpb := print_bytes hr
    have HBP0 := Lib.hid (back_parse hr)
    have PC0 := Lib.hid (fun w' => readC (bsL (printR (ls.map NdV.x))) (by omega) w')
    have NC0 := Lib.hid (nestC (bsL (printR (ls.map NdV.x))) hpb)
    have hz0 : (bsR (printR (ls.map NdV.x))).size = (bsL (printR (ls.map NdV.x))).length := str_size _
    have hzp : 0 < (bsL (printR (ls.map NdV.x))).length := List.length_pos_iff.2 HNE0.out
    change Hid (∀ w', Calls Tryd.prog 8 #[.string (bsR (printR (ls.map NdV.x)))] w' _) at PC0
    change Hid (∀ w', Calls Tryd.prog 15 #[.string (bsR (printR (ls.map NdV.x)))] w' _) at NC0
    clear HTB
    have HTB := Lib.hid True.intro
    generalize bsR (printR (ls.map NdV.x)) = tb at PC0 NC0 hz0 PC
    generalize nestB (bsL (printR (ls.map NdV.x))) = nb0 at NC0 HBP0
    have ht01 : ¬ tb.toList = [] := fun e => by
      rw [toList_nil_iff_emptyBytes] at e
      rw [e] at hz0
      have : (ByteArray.empty).size = 0 := rfl
      omega
    have ht02 : (!tb.toList.isEmpty) = true := by simpa using ht01
    have hz3 : (tb.size : Int) ≤ 1000000000000 := by omega
    by_cases hA0 : 120 < tb.size
    · have i3 : decide ((tb.size : Int) ≤ 120) = false := by simp; omega
      clear HBP0 hz0 hzp hA0 HNE0 hpb PC0 NC0 hr
      go_enter Tryd.func4, Tryd.ntmps4
      go_wp2_with fail
      refine PC.out.mono ?_
      rintro e w1 ⟨rfl, b1⟩
      have B1 := Lib.hid b1
      have N1 := Lib.hid (HN.out.kept b1)
      clear b1 PC HN
      have B9 := B1
      have N9 := N1
      clear B1 N1
      clear HTB
      go_upto_if 46 with fail
      go_cut [1] (fun s1 wx => ∃ t : List UInt8, s1 = str t ∧ t.length ≤ 300 ∧ Below w.heap.size w wx)
      case first =>
        by_cases h300 : 300 < bs.size
        · have i1 : (300 : Int) < (bs.size : Int) := by omega
          go_wp2_with fail
          go_meet
          exact ⟨s.take 300, by rw [HBS.out]; exact take_bytes2 s 300, by simp; omega, B9.out⟩
        · have i1 : ¬ (300 : Int) < (bs.size : Int) := by omega
          go_wp2_with fail
          go_meet
          exact ⟨s, by rw [HBS.out], by have := SZ.out; omega, B9.out⟩
      case rest =>
        obtain ⟨t, rfl, ht, b⟩ := hcut
        have BB := Lib.hid b
        clear b HBS SZ i2 B9 N9
        have PC := Lib.hid (fun w' => readC t (by omega) w')
        have BC := back_cases t
        have STL : ∃ ts : ByteArray, str t = .string ts ∧ ts.size = t.length := ⟨⟨t.toArray⟩, rfl, str_size t⟩
        obtain ⟨ts, hts, htl⟩ := STL
        rw [hts] at PC ⊢
        rcases BC with ⟨q, p, hq, hq0, hp0, hp1⟩ | ⟨L, hq, hr2⟩
        · rw [hq] at PC
          have n1 : (q != 0) = true := by simpa using hq0
          have hp2 : p ≤ (ts.size : Int) := by omega
          have hz : (ts.size : Int) ≤ 300 := by omega
          clear hq hq0 hts ht hp1 htl
          go_wp2_with fail
          refine (PC.out _).mono ?_
          rintro e w5 ⟨l5, c5, ls5, rfl, m5, n5, -, b5⟩
          obtain rfl : ls5 = [] := by simpa using m5
          have B5 := Lib.hid (BB.out.trans (b5.mono BB.out.size))
          clear b5 m5 n5 PC
          go_wp2_with fail
          refine (RC.out _ B5.out).mono ?_
          rintro e w6 ⟨rfl, b6⟩
          have B6 := Lib.hid (B5.out.trans (b6.mono B5.out.size))
          clear b6
          go_wp2_with fail
          go_ret
          exact ⟨rfl, B6.out⟩
        · rw [hq] at PC
          have HR2 := Lib.hid hr2
          have HRF := Lib.hid ((rRight_eq L).symm.trans hr2)
          have HNE := Lib.hid (print_nonempty hr2)
          have HPB := Lib.hid (print_bytes hr2)
          have HBP := Lib.hid (back_parse hr2)
          clear hq hts ht htl hr2
          go_wp2_with fail
          refine (PC.out _).mono ?_
          rintro e w5 ⟨l5, c5, ls5, rfl, m5, n5, -, b5⟩
          have M5 : Hid (ls5.map NdV.x = L) := Lib.hid m5
          have N5 := Lib.hid n5
          have B5 := Lib.hid (BB.out.trans (b5.mono BB.out.size))
          clear b5 m5 n5 PC BB
          have pr := printC l5 c5 ls5 w5 N5.out (HT.out.kept B5.out)
          rw [M5.out, HRF.out, if_pos rfl] at pr
          have PR := Lib.hid pr
          clear pr
          go_wp2_with fail
          refine PR.out.mono ?_
          rintro e w6 ⟨rfl, b6⟩
          have N6 := Lib.hid (N5.out.kept b6)
          have B6 := Lib.hid (B5.out.trans (b6.mono B5.out.size))
          clear b6 PR N5 B5
          have PC2 := Lib.hid (fun w' => readC (bsL (printR L)) (by have := HPB.out; omega) w')
          have NC2 := Lib.hid (nestC (bsL (printR L)) HPB.out)
          have hz : (bsR (printR L)).size = (bsL (printR L)).length := str_size _
          have hz1 := HPB.out
          have hz2 : 0 < (bsL (printR L)).length := List.length_pos_iff.2 HNE.out
          change Hid (∀ w', Calls Tryd.prog 8 #[.string (bsR (printR L))] w' _) at PC2
          change Hid (∀ w', Calls Tryd.prog 15 #[.string (bsR (printR L))] w' _) at NC2
          have HT2 : Hid (bsR (printR L) = ⟨(bsL (printR L)).toArray⟩) := Lib.hid rfl
          generalize bsR (printR L) = tb2 at PC2 NC2 hz HT2 ⊢
          generalize nestB (bsL (printR L)) = nb at NC2 HBP
          have RNC := Lib.hid (fun w' (N : Nrd w' l5 c5 ls5) => (by
            have := rightNC l5 c5 ls5 w' N
            rw [M5.out, HRF.out] at this
            exact this : Calls Tryd.prog 13 #[.slice l5 ls5.length c5] w' fun e w2 => e = .returned (.bool true) ∧ Below w'.heap.size w' w2))
          have ht1 : ¬ tb2.toList = [] := fun e => by
            rw [toList_nil_iff_emptyBytes] at e
            rw [e] at hz
            have : (ByteArray.empty).size = 0 := rfl
            omega
          have ht2 : (!tb2.toList.isEmpty) = true := by simpa using ht1
          have hz3 : (tb2.size : Int) ≤ 1000000000000 := by omega
          by_cases hA : 120 < tb2.size
          · have i3 : decide ((120 : Int) < (tb2.size : Int)) = true := by simp; omega
            generalize parseF (bsL (printR L)) = pq at PC2
            obtain ⟨L2, q2, p2⟩ := pq
            clear HBP hz hz1 hz2 hA HNE HPB
            go_wp2_with fail
            refine (PC2.out _).mono ?_
            rintro e w7 ⟨l7, c7, ls7, rfl, m7, n7, -, b7⟩
            have M7 := Lib.hid m7
            have N7a := Lib.hid n7
            have N7 := Lib.hid (N6.out.kept b7)
            have B7 := Lib.hid (B6.out.trans (b7.mono B6.out.size))
            clear b7 m7 n7 N6 B6 PC2
            go_wp2_with fail
            refine (RNC.out _ N7.out).mono ?_
            rintro e w8 ⟨rfl, b8⟩
            have N8 := Lib.hid (N7.out.kept b8)
            have N8a := Lib.hid (N7a.out.kept b8)
            have B8 := Lib.hid (B7.out.trans (b8.mono B7.out.size))
            clear b8 N7 N7a B7 RNC
            go_wp2_with fail
            refine (RC.out _ B8.out).mono ?_
            rintro e wz ⟨rfl, bz⟩
            have BZ := Lib.hid (B8.out.trans (bz.mono B8.out.size))
            clear bz
            go_wp2_with fail
            go_ret
            exact ⟨rfl, BZ.out⟩
          · have i3 : decide ((120 : Int) < (tb2.size : Int)) = false := by simp; omega
            by_cases hB : 20 < nb
            · have i4 : decide (20 < nb) = true := by simpa using hB
              generalize parseF (bsL (printR L)) = pq at PC2
              obtain ⟨L2, q2, p2⟩ := pq
              clear HBP hz hz1 hz2 hA hB HNE HPB
              go_wp2_with fail
              refine (PC2.out _).mono ?_
              rintro e w7 ⟨l7, c7, ls7, rfl, m7, n7, -, b7⟩
              have M7 := Lib.hid m7
              have N7a := Lib.hid n7
              have N7 := Lib.hid (N6.out.kept b7)
              have B7 := Lib.hid (B6.out.trans (b7.mono B6.out.size))
              clear b7 m7 n7 N6 B6 PC2
              go_wp2_with fail
              refine (RNC.out _ N7.out).mono ?_
              rintro e w8 ⟨rfl, b8⟩
              have N8 := Lib.hid (N7.out.kept b8)
              have N8a := Lib.hid (N7a.out.kept b8)
              have B8 := Lib.hid (B7.out.trans (b8.mono B7.out.size))
              clear b8 N7 N7a B7 RNC
              go_wp2_with fail
              refine (NC2.out w8).mono ?_
              rintro e w9 ⟨rfl, rfl⟩
              go_wp2_with fail
              refine (RC.out _ B8.out).mono ?_
              rintro e wz ⟨rfl, bz⟩
              have BZ := Lib.hid (B8.out.trans (bz.mono B8.out.size))
              clear bz
              go_wp2_with fail
              go_ret
              exact ⟨rfl, BZ.out⟩
            · have i4 : decide (20 < nb) = false := by simpa using hB
              have hbp := HBP.out (by omega) (by omega)
              rw [hbp] at PC2
              clear HBP hz hz1 hz2 hA hB HNE HPB hbp
              go_wp2_with fail
              refine (PC2.out _).mono ?_
              rintro e w7 ⟨l7, c7, ls7, rfl, m7, n7, -, b7⟩
              have M7 := Lib.hid m7
              have N7a := Lib.hid n7
              have N7 := Lib.hid (N6.out.kept b7)
              have B7 := Lib.hid (B6.out.trans (b7.mono B6.out.size))
              clear b7 m7 n7 N6 B6 PC2
              go_wp2_with fail
              refine (RNC.out _ N7.out).mono ?_
              rintro e w8 ⟨rfl, b8⟩
              have N8 := Lib.hid (N7.out.kept b8)
              have N8a := Lib.hid (N7a.out.kept b8)
              have B8 := Lib.hid (B7.out.trans (b8.mono B7.out.size))
              clear b8 N7 N7a B7 RNC
              go_wp2_with fail
              refine (NC2.out w8).mono ?_
              rintro e w9 ⟨rfl, rfl⟩
              go_wp2_with fail
              refine (nodesT l5 l7 c5 c7 ls5 ls7 _ N8.out N8a.out (by rw [M5.out, M7.out])).mono ?_
              rintro e w10 ⟨rfl, b10⟩
              have B10 := Lib.hid (B8.out.trans (b10.mono B8.out.size))
              clear b10
              go_wp2_with fail
              refine (RC.out _ B10.out).mono ?_
              rintro e wz ⟨rfl, bz⟩
              have BZ := Lib.hid (B10.out.trans (bz.mono B10.out.size))
              clear bz
              go_wp2_with fail
              go_ret
              exact ⟨rfl, BZ.out⟩
    · have i3 : decide ((tb.size : Int) ≤ 120) = true := by simp; omega
      by_cases hB0 : 20 < nb0
      · have i4 : decide (nb0 ≤ 20) = false := by simpa using hB0
        clear HBP0 hz0 hzp hA0 HNE0 hpb PC0 hr hB0
        go_enter Tryd.func4, Tryd.ntmps4
        go_wp2_with fail
        refine PC.out.mono ?_
        rintro e w1 ⟨rfl, b1⟩
        have B1 := Lib.hid b1
        have N1 := Lib.hid (HN.out.kept b1)
        clear b1 PC HN
        go_wp2_with fail
        refine (NC0.out w1).mono ?_
        rintro e w9 ⟨rfl, rfl⟩
        have B9 := B1
        have N9 := N1
        clear B1 N1 NC0
        clear HTB
        go_upto_if 46 with fail
        go_cut [1] (fun s1 wx => ∃ t : List UInt8, s1 = str t ∧ t.length ≤ 300 ∧ Below w.heap.size w wx)
        case first =>
          by_cases h300 : 300 < bs.size
          · have i1 : (300 : Int) < (bs.size : Int) := by omega
            go_wp2_with fail
            go_meet
            exact ⟨s.take 300, by rw [HBS.out]; exact take_bytes2 s 300, by simp; omega, B9.out⟩
          · have i1 : ¬ (300 : Int) < (bs.size : Int) := by omega
            go_wp2_with fail
            go_meet
            exact ⟨s, by rw [HBS.out], by have := SZ.out; omega, B9.out⟩
        case rest =>
          obtain ⟨t, rfl, ht, b⟩ := hcut
          have BB := Lib.hid b
          clear b HBS SZ i2 B9 N9
          have PC := Lib.hid (fun w' => readC t (by omega) w')
          have BC := back_cases t
          have STL : ∃ ts : ByteArray, str t = .string ts ∧ ts.size = t.length := ⟨⟨t.toArray⟩, rfl, str_size t⟩
          obtain ⟨ts, hts, htl⟩ := STL
          rw [hts] at PC ⊢
          rcases BC with ⟨q, p, hq, hq0, hp0, hp1⟩ | ⟨L, hq, hr2⟩
          · rw [hq] at PC
            have n1 : (q != 0) = true := by simpa using hq0
            have hp2 : p ≤ (ts.size : Int) := by omega
            have hz : (ts.size : Int) ≤ 300 := by omega
            clear hq hq0 hts ht hp1 htl
            go_wp2_with fail
            refine (PC.out _).mono ?_
            rintro e w5 ⟨l5, c5, ls5, rfl, m5, n5, -, b5⟩
            obtain rfl : ls5 = [] := by simpa using m5
            have B5 := Lib.hid (BB.out.trans (b5.mono BB.out.size))
            clear b5 m5 n5 PC
            go_wp2_with fail
            refine (RC.out _ B5.out).mono ?_
            rintro e w6 ⟨rfl, b6⟩
            have B6 := Lib.hid (B5.out.trans (b6.mono B5.out.size))
            clear b6
            go_wp2_with fail
            go_ret
            exact ⟨rfl, B6.out⟩
          · rw [hq] at PC
            have HR2 := Lib.hid hr2
            have HRF := Lib.hid ((rRight_eq L).symm.trans hr2)
            have HNE := Lib.hid (print_nonempty hr2)
            have HPB := Lib.hid (print_bytes hr2)
            have HBP := Lib.hid (back_parse hr2)
            clear hq hts ht htl hr2
            go_wp2_with fail
            refine (PC.out _).mono ?_
            rintro e w5 ⟨l5, c5, ls5, rfl, m5, n5, -, b5⟩
            have M5 : Hid (ls5.map NdV.x = L) := Lib.hid m5
            have N5 := Lib.hid n5
            have B5 := Lib.hid (BB.out.trans (b5.mono BB.out.size))
            clear b5 m5 n5 PC BB
            have pr := printC l5 c5 ls5 w5 N5.out (HT.out.kept B5.out)
            rw [M5.out, HRF.out, if_pos rfl] at pr
            have PR := Lib.hid pr
            clear pr
            go_wp2_with fail
            refine PR.out.mono ?_
            rintro e w6 ⟨rfl, b6⟩
            have N6 := Lib.hid (N5.out.kept b6)
            have B6 := Lib.hid (B5.out.trans (b6.mono B5.out.size))
            clear b6 PR N5 B5
            have PC2 := Lib.hid (fun w' => readC (bsL (printR L)) (by have := HPB.out; omega) w')
            have NC2 := Lib.hid (nestC (bsL (printR L)) HPB.out)
            have hz : (bsR (printR L)).size = (bsL (printR L)).length := str_size _
            have hz1 := HPB.out
            have hz2 : 0 < (bsL (printR L)).length := List.length_pos_iff.2 HNE.out
            change Hid (∀ w', Calls Tryd.prog 8 #[.string (bsR (printR L))] w' _) at PC2
            change Hid (∀ w', Calls Tryd.prog 15 #[.string (bsR (printR L))] w' _) at NC2
            have HT2 : Hid (bsR (printR L) = ⟨(bsL (printR L)).toArray⟩) := Lib.hid rfl
            generalize bsR (printR L) = tb2 at PC2 NC2 hz HT2 ⊢
            generalize nestB (bsL (printR L)) = nb at NC2 HBP
            have RNC := Lib.hid (fun w' (N : Nrd w' l5 c5 ls5) => (by
              have := rightNC l5 c5 ls5 w' N
              rw [M5.out, HRF.out] at this
              exact this : Calls Tryd.prog 13 #[.slice l5 ls5.length c5] w' fun e w2 => e = .returned (.bool true) ∧ Below w'.heap.size w' w2))
            have ht1 : ¬ tb2.toList = [] := fun e => by
              rw [toList_nil_iff_emptyBytes] at e
              rw [e] at hz
              have : (ByteArray.empty).size = 0 := rfl
              omega
            have ht2 : (!tb2.toList.isEmpty) = true := by simpa using ht1
            have hz3 : (tb2.size : Int) ≤ 1000000000000 := by omega
            by_cases hA : 120 < tb2.size
            · have i3 : decide ((120 : Int) < (tb2.size : Int)) = true := by simp; omega
              generalize parseF (bsL (printR L)) = pq at PC2
              obtain ⟨L2, q2, p2⟩ := pq
              clear HBP hz hz1 hz2 hA HNE HPB
              go_wp2_with fail
              refine (PC2.out _).mono ?_
              rintro e w7 ⟨l7, c7, ls7, rfl, m7, n7, -, b7⟩
              have M7 := Lib.hid m7
              have N7a := Lib.hid n7
              have N7 := Lib.hid (N6.out.kept b7)
              have B7 := Lib.hid (B6.out.trans (b7.mono B6.out.size))
              clear b7 m7 n7 N6 B6 PC2
              go_wp2_with fail
              refine (RNC.out _ N7.out).mono ?_
              rintro e w8 ⟨rfl, b8⟩
              have N8 := Lib.hid (N7.out.kept b8)
              have N8a := Lib.hid (N7a.out.kept b8)
              have B8 := Lib.hid (B7.out.trans (b8.mono B7.out.size))
              clear b8 N7 N7a B7 RNC
              go_wp2_with fail
              refine (RC.out _ B8.out).mono ?_
              rintro e wz ⟨rfl, bz⟩
              have BZ := Lib.hid (B8.out.trans (bz.mono B8.out.size))
              clear bz
              go_wp2_with fail
              go_ret
              exact ⟨rfl, BZ.out⟩
            · have i3 : decide ((120 : Int) < (tb2.size : Int)) = false := by simp; omega
              by_cases hB : 20 < nb
              · have i4 : decide (20 < nb) = true := by simpa using hB
                generalize parseF (bsL (printR L)) = pq at PC2
                obtain ⟨L2, q2, p2⟩ := pq
                clear HBP hz hz1 hz2 hA hB HNE HPB
                go_wp2_with fail
                refine (PC2.out _).mono ?_
                rintro e w7 ⟨l7, c7, ls7, rfl, m7, n7, -, b7⟩
                have M7 := Lib.hid m7
                have N7a := Lib.hid n7
                have N7 := Lib.hid (N6.out.kept b7)
                have B7 := Lib.hid (B6.out.trans (b7.mono B6.out.size))
                clear b7 m7 n7 N6 B6 PC2
                go_wp2_with fail
                refine (RNC.out _ N7.out).mono ?_
                rintro e w8 ⟨rfl, b8⟩
                have N8 := Lib.hid (N7.out.kept b8)
                have N8a := Lib.hid (N7a.out.kept b8)
                have B8 := Lib.hid (B7.out.trans (b8.mono B7.out.size))
                clear b8 N7 N7a B7 RNC
                go_wp2_with fail
                refine (NC2.out w8).mono ?_
                rintro e w9 ⟨rfl, rfl⟩
                go_wp2_with fail
                refine (RC.out _ B8.out).mono ?_
                rintro e wz ⟨rfl, bz⟩
                have BZ := Lib.hid (B8.out.trans (bz.mono B8.out.size))
                clear bz
                go_wp2_with fail
                go_ret
                exact ⟨rfl, BZ.out⟩
              · have i4 : decide (20 < nb) = false := by simpa using hB
                have hbp := HBP.out (by omega) (by omega)
                rw [hbp] at PC2
                clear HBP hz hz1 hz2 hA hB HNE HPB hbp
                go_wp2_with fail
                refine (PC2.out _).mono ?_
                rintro e w7 ⟨l7, c7, ls7, rfl, m7, n7, -, b7⟩
                have M7 := Lib.hid m7
                have N7a := Lib.hid n7
                have N7 := Lib.hid (N6.out.kept b7)
                have B7 := Lib.hid (B6.out.trans (b7.mono B6.out.size))
                clear b7 m7 n7 N6 B6 PC2
                go_wp2_with fail
                refine (RNC.out _ N7.out).mono ?_
                rintro e w8 ⟨rfl, b8⟩
                have N8 := Lib.hid (N7.out.kept b8)
                have N8a := Lib.hid (N7a.out.kept b8)
                have B8 := Lib.hid (B7.out.trans (b8.mono B7.out.size))
                clear b8 N7 N7a B7 RNC
                go_wp2_with fail
                refine (NC2.out w8).mono ?_
                rintro e w9 ⟨rfl, rfl⟩
                go_wp2_with fail
                refine (nodesT l5 l7 c5 c7 ls5 ls7 _ N8.out N8a.out (by rw [M5.out, M7.out])).mono ?_
                rintro e w10 ⟨rfl, b10⟩
                have B10 := Lib.hid (B8.out.trans (b10.mono B8.out.size))
                clear b10
                go_wp2_with fail
                refine (RC.out _ B10.out).mono ?_
                rintro e wz ⟨rfl, bz⟩
                have BZ := Lib.hid (B10.out.trans (bz.mono B10.out.size))
                clear bz
                go_wp2_with fail
                go_ret
                exact ⟨rfl, BZ.out⟩
      · have i4 : decide (nb0 ≤ 20) = true := by simpa using hB0
        have hbp := HBP0.out (by omega) (by omega)
        rw [hbp] at PC0
        clear HBP0 hz0 hzp hA0 HNE0 hpb hr hB0 hbp
        go_enter Tryd.func4, Tryd.ntmps4
        go_wp2_with fail
        refine PC.out.mono ?_
        rintro e w1 ⟨rfl, b1⟩
        have B1 := Lib.hid b1
        have N1 := Lib.hid (HN.out.kept b1)
        clear b1 PC HN
        go_wp2_with fail
        refine (NC0.out w1).mono ?_
        rintro e w9 ⟨rfl, rfl⟩
        go_wp2_with fail
        refine (PC0.out _).mono ?_
        rintro e w10 ⟨l10, c10, ls10, rfl, m10, n10, -, b10⟩
        have M10 := Lib.hid m10
        have N10 := Lib.hid n10
        have N10a := Lib.hid (N1.out.kept b10)
        have B10 := Lib.hid (B1.out.trans (b10.mono B1.out.size))
        clear b10 m10 n10 N1 B1 PC0 NC0
        go_wp2_with fail
        refine (nodesT la l10 lc c10 ls ls10 _ N10a.out N10.out M10.out.symm).mono ?_
        rintro e w11 ⟨rfl, b11⟩
        have N9 := Lib.hid (N10a.out.kept b11)
        have B9 := Lib.hid (B10.out.trans (b11.mono B10.out.size))
        clear b11 N10 N10a B10 M10
        clear HTB
        go_upto_if 46 with fail
        go_cut [1] (fun s1 wx => ∃ t : List UInt8, s1 = str t ∧ t.length ≤ 300 ∧ Below w.heap.size w wx)
        case first =>
          by_cases h300 : 300 < bs.size
          · have i1 : (300 : Int) < (bs.size : Int) := by omega
            go_wp2_with fail
            go_meet
            exact ⟨s.take 300, by rw [HBS.out]; exact take_bytes2 s 300, by simp; omega, B9.out⟩
          · have i1 : ¬ (300 : Int) < (bs.size : Int) := by omega
            go_wp2_with fail
            go_meet
            exact ⟨s, by rw [HBS.out], by have := SZ.out; omega, B9.out⟩
        case rest =>
          obtain ⟨t, rfl, ht, b⟩ := hcut
          have BB := Lib.hid b
          clear b HBS SZ i2 B9 N9
          have PC := Lib.hid (fun w' => readC t (by omega) w')
          have BC := back_cases t
          have STL : ∃ ts : ByteArray, str t = .string ts ∧ ts.size = t.length := ⟨⟨t.toArray⟩, rfl, str_size t⟩
          obtain ⟨ts, hts, htl⟩ := STL
          rw [hts] at PC ⊢
          rcases BC with ⟨q, p, hq, hq0, hp0, hp1⟩ | ⟨L, hq, hr2⟩
          · rw [hq] at PC
            have n1 : (q != 0) = true := by simpa using hq0
            have hp2 : p ≤ (ts.size : Int) := by omega
            have hz : (ts.size : Int) ≤ 300 := by omega
            clear hq hq0 hts ht hp1 htl
            go_wp2_with fail
            refine (PC.out _).mono ?_
            rintro e w5 ⟨l5, c5, ls5, rfl, m5, n5, -, b5⟩
            obtain rfl : ls5 = [] := by simpa using m5
            have B5 := Lib.hid (BB.out.trans (b5.mono BB.out.size))
            clear b5 m5 n5 PC
            go_wp2_with fail
            refine (RC.out _ B5.out).mono ?_
            rintro e w6 ⟨rfl, b6⟩
            have B6 := Lib.hid (B5.out.trans (b6.mono B5.out.size))
            clear b6
            go_wp2_with fail
            go_ret
            exact ⟨rfl, B6.out⟩
          · rw [hq] at PC
            have HR2 := Lib.hid hr2
            have HRF := Lib.hid ((rRight_eq L).symm.trans hr2)
            have HNE := Lib.hid (print_nonempty hr2)
            have HPB := Lib.hid (print_bytes hr2)
            have HBP := Lib.hid (back_parse hr2)
            clear hq hts ht htl hr2
            go_wp2_with fail
            refine (PC.out _).mono ?_
            rintro e w5 ⟨l5, c5, ls5, rfl, m5, n5, -, b5⟩
            have M5 : Hid (ls5.map NdV.x = L) := Lib.hid m5
            have N5 := Lib.hid n5
            have B5 := Lib.hid (BB.out.trans (b5.mono BB.out.size))
            clear b5 m5 n5 PC BB
            have pr := printC l5 c5 ls5 w5 N5.out (HT.out.kept B5.out)
            rw [M5.out, HRF.out, if_pos rfl] at pr
            have PR := Lib.hid pr
            clear pr
            go_wp2_with fail
            refine PR.out.mono ?_
            rintro e w6 ⟨rfl, b6⟩
            have N6 := Lib.hid (N5.out.kept b6)
            have B6 := Lib.hid (B5.out.trans (b6.mono B5.out.size))
            clear b6 PR N5 B5
            have PC2 := Lib.hid (fun w' => readC (bsL (printR L)) (by have := HPB.out; omega) w')
            have NC2 := Lib.hid (nestC (bsL (printR L)) HPB.out)
            have hz : (bsR (printR L)).size = (bsL (printR L)).length := str_size _
            have hz1 := HPB.out
            have hz2 : 0 < (bsL (printR L)).length := List.length_pos_iff.2 HNE.out
            change Hid (∀ w', Calls Tryd.prog 8 #[.string (bsR (printR L))] w' _) at PC2
            change Hid (∀ w', Calls Tryd.prog 15 #[.string (bsR (printR L))] w' _) at NC2
            have HT2 : Hid (bsR (printR L) = ⟨(bsL (printR L)).toArray⟩) := Lib.hid rfl
            generalize bsR (printR L) = tb2 at PC2 NC2 hz HT2 ⊢
            generalize nestB (bsL (printR L)) = nb at NC2 HBP
            have RNC := Lib.hid (fun w' (N : Nrd w' l5 c5 ls5) => (by
              have := rightNC l5 c5 ls5 w' N
              rw [M5.out, HRF.out] at this
              exact this : Calls Tryd.prog 13 #[.slice l5 ls5.length c5] w' fun e w2 => e = .returned (.bool true) ∧ Below w'.heap.size w' w2))
            have ht1 : ¬ tb2.toList = [] := fun e => by
              rw [toList_nil_iff_emptyBytes] at e
              rw [e] at hz
              have : (ByteArray.empty).size = 0 := rfl
              omega
            have ht2 : (!tb2.toList.isEmpty) = true := by simpa using ht1
            have hz3 : (tb2.size : Int) ≤ 1000000000000 := by omega
            by_cases hA : 120 < tb2.size
            · have i3 : decide ((120 : Int) < (tb2.size : Int)) = true := by simp; omega
              generalize parseF (bsL (printR L)) = pq at PC2
              obtain ⟨L2, q2, p2⟩ := pq
              clear HBP hz hz1 hz2 hA HNE HPB
              go_wp2_with fail
              refine (PC2.out _).mono ?_
              rintro e w7 ⟨l7, c7, ls7, rfl, m7, n7, -, b7⟩
              have M7 := Lib.hid m7
              have N7a := Lib.hid n7
              have N7 := Lib.hid (N6.out.kept b7)
              have B7 := Lib.hid (B6.out.trans (b7.mono B6.out.size))
              clear b7 m7 n7 N6 B6 PC2
              go_wp2_with fail
              refine (RNC.out _ N7.out).mono ?_
              rintro e w8 ⟨rfl, b8⟩
              have N8 := Lib.hid (N7.out.kept b8)
              have N8a := Lib.hid (N7a.out.kept b8)
              have B8 := Lib.hid (B7.out.trans (b8.mono B7.out.size))
              clear b8 N7 N7a B7 RNC
              go_wp2_with fail
              refine (RC.out _ B8.out).mono ?_
              rintro e wz ⟨rfl, bz⟩
              have BZ := Lib.hid (B8.out.trans (bz.mono B8.out.size))
              clear bz
              go_wp2_with fail
              go_ret
              exact ⟨rfl, BZ.out⟩
            · have i3 : decide ((120 : Int) < (tb2.size : Int)) = false := by simp; omega
              by_cases hB : 20 < nb
              · have i4 : decide (20 < nb) = true := by simpa using hB
                generalize parseF (bsL (printR L)) = pq at PC2
                obtain ⟨L2, q2, p2⟩ := pq
                clear HBP hz hz1 hz2 hA hB HNE HPB
                go_wp2_with fail
                refine (PC2.out _).mono ?_
                rintro e w7 ⟨l7, c7, ls7, rfl, m7, n7, -, b7⟩
                have M7 := Lib.hid m7
                have N7a := Lib.hid n7
                have N7 := Lib.hid (N6.out.kept b7)
                have B7 := Lib.hid (B6.out.trans (b7.mono B6.out.size))
                clear b7 m7 n7 N6 B6 PC2
                go_wp2_with fail
                refine (RNC.out _ N7.out).mono ?_
                rintro e w8 ⟨rfl, b8⟩
                have N8 := Lib.hid (N7.out.kept b8)
                have N8a := Lib.hid (N7a.out.kept b8)
                have B8 := Lib.hid (B7.out.trans (b8.mono B7.out.size))
                clear b8 N7 N7a B7 RNC
                go_wp2_with fail
                refine (NC2.out w8).mono ?_
                rintro e w9 ⟨rfl, rfl⟩
                go_wp2_with fail
                refine (RC.out _ B8.out).mono ?_
                rintro e wz ⟨rfl, bz⟩
                have BZ := Lib.hid (B8.out.trans (bz.mono B8.out.size))
                clear bz
                go_wp2_with fail
                go_ret
                exact ⟨rfl, BZ.out⟩
              · have i4 : decide (20 < nb) = false := by simpa using hB
                have hbp := HBP.out (by omega) (by omega)
                rw [hbp] at PC2
                clear HBP hz hz1 hz2 hA hB HNE HPB hbp
                go_wp2_with fail
                refine (PC2.out _).mono ?_
                rintro e w7 ⟨l7, c7, ls7, rfl, m7, n7, -, b7⟩
                have M7 := Lib.hid m7
                have N7a := Lib.hid n7
                have N7 := Lib.hid (N6.out.kept b7)
                have B7 := Lib.hid (B6.out.trans (b7.mono B6.out.size))
                clear b7 m7 n7 N6 B6 PC2
                go_wp2_with fail
                refine (RNC.out _ N7.out).mono ?_
                rintro e w8 ⟨rfl, b8⟩
                have N8 := Lib.hid (N7.out.kept b8)
                have N8a := Lib.hid (N7a.out.kept b8)
                have B8 := Lib.hid (B7.out.trans (b8.mono B7.out.size))
                clear b8 N7 N7a B7 RNC
                go_wp2_with fail
                refine (NC2.out w8).mono ?_
                rintro e w9 ⟨rfl, rfl⟩
                go_wp2_with fail
                refine (nodesT l5 l7 c5 c7 ls5 ls7 _ N8.out N8a.out (by rw [M5.out, M7.out])).mono ?_
                rintro e w10 ⟨rfl, b10⟩
                have B10 := Lib.hid (B8.out.trans (b10.mono B8.out.size))
                clear b10
                go_wp2_with fail
                refine (RC.out _ B10.out).mono ?_
                rintro e wz ⟨rfl, bz⟩
                have BZ := Lib.hid (B10.out.trans (bz.mono B10.out.size))
                clear bz
                go_wp2_with fail
                go_ret
                exact ⟨rfl, BZ.out⟩
end Go.Proofs.YtooockbfagkknaaDoor.syn
