/- MailRuns returns true, in whatever world; what was there stays. -/
import Derived.Test.YtaohnngadjhmjaaFirst
namespace Go.Proofs.Ytaohnngadjhmjaa.mail
open Go.Conc Go.RowKit
variable {B : Nat} {w : World} {L : List BoxS}
theorem size_of_below {B : Nat} {w w' : World} (h : Below B w w') (hB : B ≤ w.heap.size) : B ≤ w'.heap.size := Nat.le_trans hB h.size
set_option maxHeartbeats 2000000 in
set_option maxRecDepth 100000 in
theorem runs (w : World) : Calls Try.prog 3 #[] w fun e w' => e = .returned (.bool true) ∧ Below w.heap.size w w' := by
  obtain ⟨B, hBe⟩ : ∃ B, B = w.heap.size := ⟨_, rfl⟩
  have hB : B ≤ w.heap.size := by omega
  have HBe := Lib.hid hBe
  clear hBe
  have H0 : Boxes B w [] := Boxes.nil _ _
  have b0 : Below B w w := Below.refl _ _
  go_enter Try.func3, Try.ntmps3
  go_wp2_with fail
  refine (New_int (L := []) 2 _ (by omega) (by omega) H0 hB).mono ?_
  rintro e w1 ⟨⟨Tb, bb, cb, _, _, _⟩, rfl, rfl, rfl, rfl, H1, n1⟩
  replace n1 := n1.mono hB
  have hB1 := size_of_below n1 hB
  have b1 := b0.trans n1
  clear b0 n1 hB H0
  go_wp2_with fail
  refine (Send_can_int (L := [⟨Tb, bb, cb, 2, [], false⟩]) (i := 0) (x := ⟨Tb, bb, cb, 2, [], false⟩) rfl H1 hB1 rfl (by simp) 1).mono ?_
  rintro e w2 ⟨rfl, H2, n2⟩
  replace H2 : Boxes B w2 [⟨Tb, bb, cb, 2, [.int .i64 1], false⟩] := H2
  have hB2 := size_of_below n2 hB1
  have b2 := b1.trans n2
  clear b1 n2 hB1 H1
  go_wp2_with fail
  refine (Send_can_int (L := [⟨Tb, bb, cb, 2, [.int .i64 1], false⟩]) (i := 0) (x := ⟨Tb, bb, cb, 2, [.int .i64 1], false⟩) rfl H2 hB2 rfl (by simp) 2).mono ?_
  rintro e w3 ⟨rfl, H3, n3⟩
  replace H3 : Boxes B w3 [⟨Tb, bb, cb, 2, [.int .i64 1, .int .i64 2], false⟩] := H3
  have hB3 := size_of_below n3 hB2
  have b3 := b2.trans n3
  clear b2 n3 hB2 H2
  go_wp2_with fail
  refine (Send_cannot_int (L := [⟨Tb, bb, cb, 2, [.int .i64 1, .int .i64 2], false⟩]) (i := 0) (x := ⟨Tb, bb, cb, 2, [.int .i64 1, .int .i64 2], false⟩) rfl H3 hB3 (by simp) 3).mono ?_
  rintro e w4 ⟨rfl, H4, n4⟩
  replace H4 : Boxes B w4 [⟨Tb, bb, cb, 2, [.int .i64 1, .int .i64 2], false⟩] := H4
  have hB4 := size_of_below n4 hB3
  have b4 := b3.trans n4
  clear b3 n4 hB3 H3
  go_wp2_with fail
  refine (Recv_some_int (L := [⟨Tb, bb, cb, 2, [.int .i64 1, .int .i64 2], false⟩]) (i := 0) (x := ⟨Tb, bb, cb, 2, [.int .i64 1, .int .i64 2], false⟩) rfl H4 hB4 1 rfl).mono ?_
  rintro e w5 ⟨rfl, H5, n5⟩
  replace H5 : Boxes B w5 [⟨Tb, bb, cb, 2, [.int .i64 2], false⟩] := H5
  have hB5 := size_of_below n5 hB4
  have b5 := b4.trans n5
  clear b4 n5 hB4 H4
  go_wp2_with fail
  refine (Close_int (L := [⟨Tb, bb, cb, 2, [.int .i64 2], false⟩]) (i := 0) (x := ⟨Tb, bb, cb, 2, [.int .i64 2], false⟩) rfl H5).mono ?_
  rintro e w6 ⟨rfl, H6, n6⟩
  replace H6 : Boxes B w6 [⟨Tb, bb, cb, 2, [.int .i64 2], true⟩] := H6
  have hB6 := size_of_below n6 hB5
  have b6 := b5.trans n6
  clear b5 n6 hB5 H5
  go_wp2_with fail
  refine (Send_cannot_int (L := [⟨Tb, bb, cb, 2, [.int .i64 2], true⟩]) (i := 0) (x := ⟨Tb, bb, cb, 2, [.int .i64 2], true⟩) rfl H6 hB6 (by simp) 4).mono ?_
  rintro e w7 ⟨rfl, H7, n7⟩
  replace H7 : Boxes B w7 [⟨Tb, bb, cb, 2, [.int .i64 2], true⟩] := H7
  have hB7 := size_of_below n7 hB6
  have b7 := b6.trans n7
  clear b6 n7 hB6 H6
  go_wp2_with fail
  refine (Closed_int (L := [⟨Tb, bb, cb, 2, [.int .i64 2], true⟩]) (i := 0) (x := ⟨Tb, bb, cb, 2, [.int .i64 2], true⟩) rfl H7).mono ?_
  rintro e w' ⟨rfl, rfl⟩
  go_wp2_with fail
  refine (Recv_some_int (L := [⟨Tb, bb, cb, 2, [.int .i64 2], true⟩]) (i := 0) (x := ⟨Tb, bb, cb, 2, [.int .i64 2], true⟩) rfl H7 hB7 2 rfl).mono ?_
  rintro e w8 ⟨rfl, H8, n8⟩
  replace H8 : Boxes B w8 [⟨Tb, bb, cb, 2, [], true⟩] := H8
  have hB8 := size_of_below n8 hB7
  have b8 := b7.trans n8
  clear b7 n8 hB7 H7
  go_wp2_with fail
  refine (Recv_none_int (L := [⟨Tb, bb, cb, 2, [], true⟩]) (i := 0) (x := ⟨Tb, bb, cb, 2, [], true⟩) rfl H8 rfl).mono ?_
  rintro e w' ⟨rfl, rfl⟩
  go_wp2_with fail
  refine (New_int (L := [⟨Tb, bb, cb, 2, [], true⟩]) 2 _ (by omega) (by omega) H8 hB8).mono ?_
  rintro e w9 ⟨⟨Tc, bc, cc, _, _, _⟩, rfl, rfl, rfl, rfl, H9, n9⟩
  replace n9 := n9.mono hB8
  have hB9 := size_of_below n9 hB8
  have b9 := b8.trans n9
  clear b8 n9 hB8 H8
  go_wp2_with fail
  refine (New_int (L := [⟨Tb, bb, cb, 2, [], true⟩, ⟨Tc, bc, cc, 2, [], false⟩]) 2 _ (by omega) (by omega) H9 hB9).mono ?_
  rintro e w10 ⟨⟨Td, bd, cd, _, _, _⟩, rfl, rfl, rfl, rfl, H10, n10⟩
  replace n10 := n10.mono hB9
  have hB10 := size_of_below n10 hB9
  have b10 := b9.trans n10
  clear b9 n10 hB9 H9
  go_wp2_with fail
  refine (Send_can_int (L := [⟨Tb, bb, cb, 2, [], true⟩, ⟨Tc, bc, cc, 2, [], false⟩, ⟨Td, bd, cd, 2, [], false⟩]) (i := 1) (x := ⟨Tc, bc, cc, 2, [], false⟩) rfl H10 hB10 rfl (by simp) 7).mono ?_
  rintro e w11 ⟨rfl, H11, n11⟩
  replace H11 : Boxes B w11 [⟨Tb, bb, cb, 2, [], true⟩, ⟨Tc, bc, cc, 2, [.int .i64 7], false⟩, ⟨Td, bd, cd, 2, [], false⟩] := H11
  have hB11 := size_of_below n11 hB10
  have b11 := b10.trans n11
  clear b10 n11 hB10 H10
  go_wp2_with fail
  refine (Send_can_int (L := [⟨Tb, bb, cb, 2, [], true⟩, ⟨Tc, bc, cc, 2, [.int .i64 7], false⟩, ⟨Td, bd, cd, 2, [], false⟩]) (i := 1) (x := ⟨Tc, bc, cc, 2, [.int .i64 7], false⟩) rfl H11 hB11 rfl (by simp) 8).mono ?_
  rintro e w12 ⟨rfl, H12, n12⟩
  replace H12 : Boxes B w12 [⟨Tb, bb, cb, 2, [], true⟩, ⟨Tc, bc, cc, 2, [.int .i64 7, .int .i64 8], false⟩, ⟨Td, bd, cd, 2, [], false⟩] := H12
  have hB12 := size_of_below n12 hB11
  have b12 := b11.trans n12
  clear b11 n12 hB11 H11
  go_wp2_with fail
  refine (Send_can_int (L := [⟨Tb, bb, cb, 2, [], true⟩, ⟨Tc, bc, cc, 2, [.int .i64 7, .int .i64 8], false⟩, ⟨Td, bd, cd, 2, [], false⟩]) (i := 2) (x := ⟨Td, bd, cd, 2, [], false⟩) rfl H12 hB12 rfl (by simp) 9).mono ?_
  rintro e w13 ⟨rfl, H13, n13⟩
  replace H13 : Boxes B w13 [⟨Tb, bb, cb, 2, [], true⟩, ⟨Tc, bc, cc, 2, [.int .i64 7, .int .i64 8], false⟩, ⟨Td, bd, cd, 2, [.int .i64 9], false⟩] := H13
  have hB13 := size_of_below n13 hB12
  have b13 := b12.trans n13
  clear b12 n13 hB12 H12
  go_wp2_with fail
  have a13 : Below B w13 (w13.alloc (.cells #[.pointer (some ⟨bb, 0, none⟩), .pointer none, .pointer (some ⟨bc, 0, none⟩), .pointer (some ⟨bd, 0, none⟩)] 22)) := (Below.refl _ _).alloc hB13 _
  have Ha : Boxes B (w13.alloc (.cells #[.pointer (some ⟨bb, 0, none⟩), .pointer none, .pointer (some ⟨bc, 0, none⟩), .pointer (some ⟨bd, 0, none⟩)] 22)) [⟨Tb, bb, cb, 2, [], true⟩, ⟨Tc, bc, cc, 2, [.int .i64 7, .int .i64 8], false⟩, ⟨Td, bd, cd, 2, [.int .i64 9], false⟩] := H13.below ((Below.refl w13.heap.size _).alloc (Nat.le_refl _) _) (Nat.le_refl _)
  refine (First_1 (L := [⟨Tb, bb, cb, 2, [], true⟩, ⟨Tc, bc, cc, 2, [.int .i64 7, .int .i64 8], false⟩, ⟨Td, bd, cd, 2, [.int .i64 9], false⟩]) (m := w13.heap.size) (i0 := 0) (x0 := ⟨Tb, bb, cb, 2, [], true⟩) (i1 := 1) (x1 := ⟨Tc, bc, cc, 2, [.int .i64 7, .int .i64 8], false⟩) (i2 := 0) (x2 := ⟨Td, bd, cd, 2, [.int .i64 9], false⟩) rfl rfl Ha (size_of_below a13 hB13) ⟨by simp, by simp, by simp, by simp⟩ rfl 7 rfl).mono ?_
  rintro e w14 ⟨rfl, H14, n14⟩
  replace H14 : Boxes B w14 [⟨Tb, bb, cb, 2, [], true⟩, ⟨Tc, bc, cc, 2, [.int .i64 8], false⟩, ⟨Td, bd, cd, 2, [.int .i64 9], false⟩] := H14
  replace n14 := a13.trans n14
  clear a13 Ha
  have hB14 := size_of_below n14 hB13
  have b14 := b13.trans n14
  clear b13 n14 hB13 H13
  go_wp2_with fail
  have a14 : Below B w14 (w14.alloc (.cells #[.pointer (some ⟨bb, 0, none⟩), .pointer none, .pointer (some ⟨bc, 0, none⟩), .pointer (some ⟨bd, 0, none⟩)] 22)) := (Below.refl _ _).alloc hB14 _
  have Ha : Boxes B (w14.alloc (.cells #[.pointer (some ⟨bb, 0, none⟩), .pointer none, .pointer (some ⟨bc, 0, none⟩), .pointer (some ⟨bd, 0, none⟩)] 22)) [⟨Tb, bb, cb, 2, [], true⟩, ⟨Tc, bc, cc, 2, [.int .i64 8], false⟩, ⟨Td, bd, cd, 2, [.int .i64 9], false⟩] := H14.below ((Below.refl w14.heap.size _).alloc (Nat.le_refl _) _) (Nat.le_refl _)
  refine (First_1 (L := [⟨Tb, bb, cb, 2, [], true⟩, ⟨Tc, bc, cc, 2, [.int .i64 8], false⟩, ⟨Td, bd, cd, 2, [.int .i64 9], false⟩]) (m := w14.heap.size) (i0 := 0) (x0 := ⟨Tb, bb, cb, 2, [], true⟩) (i1 := 1) (x1 := ⟨Tc, bc, cc, 2, [.int .i64 8], false⟩) (i2 := 0) (x2 := ⟨Td, bd, cd, 2, [.int .i64 9], false⟩) rfl rfl Ha (size_of_below a14 hB14) ⟨by simp, by simp, by simp, by simp⟩ rfl 8 rfl).mono ?_
  rintro e w15 ⟨rfl, H15, n15⟩
  replace H15 : Boxes B w15 [⟨Tb, bb, cb, 2, [], true⟩, ⟨Tc, bc, cc, 2, [], false⟩, ⟨Td, bd, cd, 2, [.int .i64 9], false⟩] := H15
  replace n15 := a14.trans n15
  clear a14 Ha
  have hB15 := size_of_below n15 hB14
  have b15 := b14.trans n15
  clear b14 n15 hB14 H14
  go_wp2_with fail
  refine (First_nothing _).mono ?_
  rintro e w' ⟨rfl, rfl⟩
  go_wp2_with fail
  refine (new_bad_str 0 _ (by omega)).mono ?_
  rintro e w' ⟨rfl, rfl⟩
  go_wp2_with fail
  go_ret
  exact ⟨rfl, HBe.out ▸ b15⟩
end Go.Proofs.Ytaohnngadjhmjaa.mail

