/- ClassRises walked. -/
import Derived.Test.YtocbpbeklbhjkaaRises
namespace Go.Proofs.Ytocbpbeklbhjkaa.cls
open Go.RowKit Go.Proofs.Ytocbpbeklbhjkaa.sl
theorem notF_notF (l : List Rg) : notF (notF l) = makeF l :=
  notF_is (makeF_makes l).1 fun r => by
    rw [(makeF_makes l).2.1, (notF_nots l).2.1]
    cases validB r <;> cases hasB l r <;> rfl
theorem notF_two (l m : List Rg) : notF (notF l ++ notF m) = bothF l m :=
  notF_is (bothF_boths l m).1 fun r => by
    rw [(bothF_boths l m).2.1, has_append, (notF_nots l).2.1, (notF_nots m).2.1]
    cases validB r <;> cases hasB l r <;> cases hasB m r <;> rfl
theorem bothF_comm (l m : List Rg) : bothF l m = bothF m l :=
  bothF_is (bothF_boths m l).1 fun r => by
    rw [(bothF_boths m l).2.1]
    cases validB r <;> cases hasB l r <;> cases hasB m r <;> rfl
set_option maxHeartbeats 8000000 in
set_option maxRecDepth 100000 in
theorem risesLaw (a b : Option Addr) (l m : List Rg) (ca cb : Nat) (w : World) (h : Rd er w a l ca) (h' : Rd er w b m cb) :
    Calls Try.prog 6 #[.slice a l.length ca, .slice b m.length cb] w fun e w' => e = .returned (.bool true) ∧ Below w.heap.size w w' := by
  have cf := Lib.hid (few a l ca w h)
  have cg := Lib.hid (few b m cb w h')
  have hlen : (l.take 40).length ≤ 40 := by simp; omega
  have hlen' : (m.take 40).length ≤ 40 := by simp; omega
  have H0 := Rd.take (n := 40) h
  have H0' := Rd.take (n := 40) h'
  clear h h'
  generalize l.take 40 = L at cf hlen H0
  generalize m.take 40 = M at cg hlen' H0'
  have H := Lib.hid H0
  have H' := Lib.hid H0'
  clear H0 H0'
  go_enter Try.func6, Try.ntmps6
  go_wp2_with fail
  refine cf.out.mono ?_
  rintro e w' ⟨rfl, rfl⟩
  go_wp2_with fail
  refine cg.out.mono ?_
  rintro e w'' ⟨rfl, rfl⟩
  clear cf cg
  go_wp2_with fail
  refine (makeC a L ca w'' H.out (by omega)).mono ?_
  rintro e w1 ⟨v1, rfl, o1, b1⟩
  obtain ⟨a1, c1, rfl, rd1, -⟩ := o1.rd
  have A1 := Lib.hid (H.out.kept b1)
  have A1' := Lib.hid (H'.out.kept b1)
  have M1 := Lib.hid rd1
  have B1 := Lib.hid b1
  clear b1 rd1 o1 H H'
  go_wp2_with fail
  refine (notC a L ca w1 A1.out (by omega)).mono ?_
  rintro e w2 ⟨v2, rfl, o2, b2⟩
  obtain ⟨a2, c2, rfl, rd2, -⟩ := o2.rd
  have A2 := Lib.hid (A1.out.kept b2)
  have A2' := Lib.hid (A1'.out.kept b2)
  have M2 := Lib.hid (M1.out.kept b2)
  have N2 := Lib.hid rd2
  have B2 := Lib.hid (below_more B1.out b2)
  clear b2 rd2 o2 A1 A1' M1 B1
  go_wp2_with fail
  refine (bothC a b L M ca cb w2 A2.out A2'.out (by omega) (by omega)).mono ?_
  rintro e w3 ⟨v3, rfl, o3, b3⟩
  obtain ⟨a3, c3, rfl, rd3, -⟩ := o3.rd
  have A3 := Lib.hid (A2.out.kept b3)
  have A3' := Lib.hid (A2'.out.kept b3)
  have M3 := Lib.hid (M2.out.kept b3)
  have N3 := Lib.hid (N2.out.kept b3)
  have C3 := Lib.hid rd3
  have B3 := Lib.hid (below_more B2.out b3)
  clear b3 rd3 o3 A2 A2' M2 N2 B2
  have hml := (makeF_makes L).2.2
  have hnl := (notF_nots L).2.2
  have hnl' := (notF_nots M).2.2
  go_wp2_with fail
  refine (rises a1 (makeF L) c1 w3 M3.out (makeF_makes L).1).mono ?_
  rintro e w4 ⟨rfl, b4⟩
  have A4 := Lib.hid (A3.out.kept b4)
  have A4' := Lib.hid (A3'.out.kept b4)
  have M4 := Lib.hid (M3.out.kept b4)
  have N4 := Lib.hid (N3.out.kept b4)
  have C4 := Lib.hid (C3.out.kept b4)
  have B4 := Lib.hid (below_more B3.out b4)
  clear b4 A3 A3' M3 N3 C3 B3
  go_wp2_with fail
  refine (rises a2 (notF L) c2 w4 N4.out (notF_nots L).1).mono ?_
  rintro e w5 ⟨rfl, b5⟩
  have A5 := Lib.hid (A4.out.kept b5)
  have A5' := Lib.hid (A4'.out.kept b5)
  have M5 := Lib.hid (M4.out.kept b5)
  have N5 := Lib.hid (N4.out.kept b5)
  have C5 := Lib.hid (C4.out.kept b5)
  have B5 := Lib.hid (below_more B4.out b5)
  clear b5 A4 A4' M4 N4 C4 B4
  go_wp2_with fail
  refine (rises a3 (bothF L M) c3 w5 C5.out (bothF_boths L M).1).mono ?_
  rintro e w6 ⟨rfl, b6⟩
  have A6 := Lib.hid (A5.out.kept b6)
  have A6' := Lib.hid (A5'.out.kept b6)
  have M6 := Lib.hid (M5.out.kept b6)
  have N6 := Lib.hid (N5.out.kept b6)
  have C6 := Lib.hid (C5.out.kept b6)
  have B6 := Lib.hid (below_more B5.out b6)
  clear b6 A5 A5' M5 N5 C5 B5
  go_wp2_with fail
  refine (makeC a1 (makeF L) c1 w6 M6.out (by omega)).mono ?_
  rw [makeF_good (makeF_makes L).1]
  rintro e w7 ⟨v7, rfl, o7, b7⟩
  obtain ⟨a7, c7, rfl, rd7, -⟩ := o7.rd
  have A7 := Lib.hid (A6.out.kept b7)
  have A7' := Lib.hid (A6'.out.kept b7)
  have M7 := Lib.hid (M6.out.kept b7)
  have N7 := Lib.hid (N6.out.kept b7)
  have C7 := Lib.hid (C6.out.kept b7)
  have X7 := Lib.hid rd7
  have B7 := Lib.hid (below_more B6.out b7)
  clear b7 rd7 o7 A6 A6' M6 N6 C6 B6
  go_wp2_with fail
  refine (sameT a7 a1 (makeF L) (makeF L) c7 c1 w7 X7.out M7.out rfl).mono ?_
  rintro e w8 ⟨rfl, b8⟩
  have A8 := Lib.hid (A7.out.kept b8)
  have A8' := Lib.hid (A7'.out.kept b8)
  have M8 := Lib.hid (M7.out.kept b8)
  have N8 := Lib.hid (N7.out.kept b8)
  have C8 := Lib.hid (C7.out.kept b8)
  have B8 := Lib.hid (below_more B7.out b8)
  clear b8 A7 A7' M7 N7 C7 B7 X7
  go_wp2_with fail
  refine (notC a2 (notF L) c2 w8 N8.out (by omega)).mono ?_
  rw [notF_notF]
  rintro e w9 ⟨v9, rfl, o9, b9⟩
  obtain ⟨a9, c9, rfl, rd9, -⟩ := o9.rd
  have A9 := Lib.hid (A8.out.kept b9)
  have A9' := Lib.hid (A8'.out.kept b9)
  have M9 := Lib.hid (M8.out.kept b9)
  have C9 := Lib.hid (C8.out.kept b9)
  have X9 := Lib.hid rd9
  have B9 := Lib.hid (below_more B8.out b9)
  clear b9 rd9 o9 A8 A8' M8 N8 C8 B8
  go_wp2_with fail
  refine (sameT a9 a1 (makeF L) (makeF L) c9 c1 w9 X9.out M9.out rfl).mono ?_
  rintro e w10 ⟨rfl, b10⟩
  have A10 := Lib.hid (A9.out.kept b10)
  have A10' := Lib.hid (A9'.out.kept b10)
  have C10 := Lib.hid (C9.out.kept b10)
  have B10 := Lib.hid (below_more B9.out b10)
  clear b10 A9 A9' M9 C9 B9 X9
  have OE := own_empty w10 (Nat.le_refl w10.heap.size)
  have hbA := (Below.refl w10.heap.size w10).alloc (Nat.le_refl _) (.cells #[] 25)
  have hsz : w10.heap.size ≤ (w10.alloc (.cells #[] 25)).heap.size := by simp
  have A11 := Lib.hid (A10.out.kept hbA)
  go_wp2_with fail
  refine (notC a L ca _ A11.out (by omega)).mono ?_
  rintro e w12 ⟨v12, rfl, o12, b12⟩
  obtain ⟨a12, c12, rfl, rd12, -⟩ := o12.rd
  have OE2 := OE.below b12 (Nat.le_refl _)
  have hb12 := hbA.trans (b12.mono hsz)
  have hs12 := hb12.size
  clear OE hbA hsz A11 b12 o12
  have l1 : ([] : List Rg).length + (notF L).length ≤ 1000000000 := by simp; omega
  go_wp2_with (at_builtin; go_must (refine wpList_app elem_rg rfl rfl rfl rfl OE2 rd12 rfl er_len er_one l1 (by omega) hs12 ?_); intro v13 w13 o13 g13)
  have hb13 := Below.grow hb12 OE2 g13 (Nat.le_refl _) hs12
  refine (notC b M cb w13 (A10'.out.kept hb13) (by omega)).mono ?_
  rintro e w14 ⟨v14, rfl, o14, b14⟩
  obtain ⟨a14, c14, rfl, rd14, -⟩ := o14.rd
  have o13' := o13.below b14 (Nat.le_refl _)
  have hb14 := hb13.trans (b14.mono hb13.size)
  have hs14 := hb14.size
  clear o13 hb13 b14 o14 OE2 rd12 g13 hb12 hs12
  rw [List.nil_append] at o13'
  have l2 : (notF L).length + (notF M).length ≤ 1000000000 := by omega
  go_wp2_with (at_builtin; go_must (refine wpList_app elem_rg rfl rfl rfl rfl o13' rd14 rfl er_len er_one l2 (by omega) hs14 ?_); intro v15 w15 o15 g15)
  have hb15 := Below.grow hb14 o13' g15 (Nat.le_refl _) hs14
  obtain ⟨a15, c15, rfl, rd15, -⟩ := o15.rd
  have A15 := Lib.hid (A10.out.kept hb15)
  have A15' := Lib.hid (A10'.out.kept hb15)
  have C15 := Lib.hid (C10.out.kept hb15)
  have B15 := Lib.hid (below_more B10.out hb15)
  clear hb15 o15 g15 o13' rd14 hb14 hs14 A10 A10' C10 B10
  refine (notC a15 (notF L ++ notF M) c15 w15 rd15 (by simp; omega)).mono ?_
  rw [notF_two]
  rintro e w16 ⟨v16, rfl, o16, b16⟩
  obtain ⟨a16, c16, rfl, rd16, -⟩ := o16.rd
  have A16 := Lib.hid (A15.out.kept b16)
  have A16' := Lib.hid (A15'.out.kept b16)
  have C16 := Lib.hid (C15.out.kept b16)
  have X16 := Lib.hid rd16
  have B16 := Lib.hid (below_more B15.out b16)
  clear b16 rd16 o16 A15 A15' C15 B15
  go_wp2_with fail
  refine (sameT a16 a3 (bothF L M) (bothF L M) c16 c3 w16 X16.out C16.out rfl).mono ?_
  rintro e w17 ⟨rfl, b17⟩
  have A17 := Lib.hid (A16.out.kept b17)
  have A17' := Lib.hid (A16'.out.kept b17)
  have C17 := Lib.hid (C16.out.kept b17)
  have B17 := Lib.hid (below_more B16.out b17)
  clear b17 A16 A16' C16 B16 X16
  go_wp2_with fail
  refine (bothC b a M L cb ca w17 A17'.out A17.out (by omega) (by omega)).mono ?_
  rw [bothF_comm M L]
  rintro e w18 ⟨v18, rfl, o18, b18⟩
  obtain ⟨a18, c18, rfl, rd18, -⟩ := o18.rd
  have C18 := Lib.hid (C17.out.kept b18)
  have X18 := Lib.hid rd18
  have B18 := Lib.hid (below_more B17.out b18)
  clear b18 rd18 o18 A17 A17' C17 B17
  go_wp2_with fail
  refine (sameT a18 a3 (bothF L M) (bothF L M) c18 c3 w18 X18.out C18.out rfl).mono ?_
  rintro e w19 ⟨rfl, b19⟩
  have B19 := Lib.hid (below_more B18.out b19)
  clear b19 B18 X18 C18
  go_wp2_with fail
  refine (runs w19).mono ?_
  rintro e w20 ⟨rfl, b20⟩
  go_wp2_with fail
  go_ret
  exact ⟨rfl, below_more B19.out b20⟩
end Go.Proofs.Ytocbpbeklbhjkaa.cls
