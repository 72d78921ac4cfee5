/- MailRooms returns true, for any room; what was there stays. -/
import Derived.Test.YtaohnngadjhmjaaRuns
namespace Go.Proofs.Ytaohnngadjhmjaa.mail
open Go.Conc Go.RowKit
variable {B : Nat} {w : World} {L : List BoxS}
set_option maxHeartbeats 1000000 in
theorem rooms_bad (n : Int) (w : World) (h : n < 1 ∨ 4096 < n) : Calls Try.prog 6 #[.int .i64 n] w fun e w' => e = .returned (.bool true) ∧ Below w.heap.size w w' := by
  have c1 := Lib.hid (new_bad_str n w h)
  have c2 := Lib.hid (runs w)
  by_cases e1 : n < 1
  · clear h
    go_enter Try.func6, Try.ntmps6
    go_wp2_with fail
    refine c1.out.mono ?_
    rintro e w' ⟨rfl, rfl⟩
    go_wp2_with fail
    refine c2.out.mono ?_
    rintro e w' ⟨rfl, hb⟩
    go_wp2_with fail
    go_ret
    exact ⟨rfl, hb⟩
  · have e2 : 4096 < n := by omega
    clear h
    go_enter Try.func6, Try.ntmps6
    go_wp2_with fail
    refine c1.out.mono ?_
    rintro e w' ⟨rfl, rfl⟩
    go_wp2_with fail
    refine c2.out.mono ?_
    rintro e w' ⟨rfl, hb⟩
    go_wp2_with fail
    go_ret
    exact ⟨rfl, hb⟩
def xs (k : Nat) : List Value := List.replicate k (.string ⟨#[120]⟩)
theorem xs_len (k : Nat) : (xs k).length = k := by simp [xs]
theorem xs_snoc (k : Nat) : xs k ++ [.string ⟨#[120]⟩] = xs (k + 1) := by simp [xs, List.replicate_succ']
theorem xs_cons (k : Nat) : xs (k + 1) = .string ⟨#[120]⟩ :: xs k := by simp [xs, List.replicate_succ]
set_option maxHeartbeats 2000000 in
set_option maxRecDepth 100000 in
theorem rooms_ok (n : Nat) (w : World) (h1 : 1 ≤ n) (h2 : n ≤ 4096) : Calls Try.prog 6 #[.int .i64 n] w fun e w' => e = .returned (.bool true) ∧ Below w.heap.size w w' := by
  obtain ⟨B, hBe⟩ : ∃ B, B = w.heap.size := ⟨_, rfl⟩
  have hB : B ≤ w.heap.size := by omega
  have HBe := Lib.hid hBe
  clear hBe
  have H0 : Boxes B w [] := Boxes.nil _ _
  have b0 : Below B w w := Below.refl _ _
  have e1 : decide ((n : Int) < 1) = false := by simp; omega
  have e2 : decide ((4096 : Int) < n) = false := by simp; omega
  go_enter Try.func6, Try.ntmps6
  go_wp2_with fail
  refine (New_str (L := []) n _ h1 h2 H0 hB).mono ?_
  rintro e w1 ⟨⟨T, b, c, n', _, _⟩, hcap, rfl, rfl, rfl, H1, n1⟩
  obtain rfl : n = n' := hcap.symm
  clear hcap
  replace n1 := n1.mono hB
  replace H1 : Boxes B w1 [⟨T, b, c, n, xs 0, false⟩] := H1
  have hB1 := size_of_below n1 hB
  clear H0 b0
  go_wp2_with fail
  go_loopw [5] (fun i wr => ∃ k : Nat, k ≤ n ∧ i = .int .i64 k ∧ B ≤ wr.heap.size ∧ Boxes B wr [⟨T, b, c, n, xs k, false⟩] ∧ Below B w wr) (fun i _ => n - (intOf i).toNat)
  case atStart => exact ⟨0, Nat.zero_le _, rfl, hB1, H1, n1⟩
  case round =>
    obtain ⟨k, hk, rfl, hBr, Hr, br⟩ := hrel
    clear H1 n1 hB1
    by_cases hlt : k < n
    · have c1 := Lib.hid (Send_can_str (i := 0) (x := ⟨T, b, c, n, xs k, false⟩) rfl Hr hBr rfl (by simp [xs_len]; omega) ⟨#[120]⟩)
      go_wp2_with (refine c1.out.mono ?_; rintro e w' ⟨rfl, H2, n2⟩)
      go_roundw
      case rel => exact ⟨k + 1, by omega, by go_num, size_of_below n2 hBr, by rw [← xs_snoc]; exact H2, br.trans n2⟩
      case measure => simp [intOf]; omega
    · obtain rfl : k = n := by omega
      clear hlt
      obtain ⟨m, rfl⟩ : ∃ m, k = m + 1 := ⟨k - 1, by omega⟩
      have c1 := Lib.hid (Send_cannot_str (i := 0) (x := ⟨T, b, c, m + 1, xs (m + 1), false⟩) rfl Hr hBr (.inr (by simp [xs_len])) ⟨#[121]⟩)
      go_wp2_with fail
      refine c1.out.mono ?_
      rintro e w2 ⟨rfl, H2, n2⟩
      clear c1
      have hB2 := size_of_below n2 hBr
      have c2 := Lib.hid (Len_str (i := 0) (x := ⟨T, b, c, m + 1, xs (m + 1), false⟩) rfl H2)
      go_wp2_with fail
      refine c2.out.mono ?_
      rintro e w' ⟨rfl, rfl⟩
      clear c2
      have c3 := Lib.hid (Recv_some_str (i := 0) (x := ⟨T, b, c, m + 1, xs (m + 1), false⟩) rfl H2 hB2 ⟨#[120]⟩ (q := xs m) (xs_cons m))
      simp only [xs_len]
      go_wp2_with fail
      refine c3.out.mono ?_
      rintro e w3 ⟨rfl, H3, n3⟩
      clear c3
      replace H3 : Boxes B w3 [⟨T, b, c, m + 1, xs m, false⟩] := H3
      have hB3 := size_of_below n3 hB2
      have c4 := Lib.hid (Send_can_str (i := 0) (x := ⟨T, b, c, m + 1, xs m, false⟩) rfl H3 hB3 rfl (by simp [xs_len]) ⟨#[122]⟩)
      go_wp2_with fail
      refine c4.out.mono ?_
      rintro e w4 ⟨rfl, H4, n4⟩
      clear c4
      replace H4 : Boxes B w4 [⟨T, b, c, m + 1, xs m ++ [.string ⟨#[122]⟩], false⟩] := H4
      have hB4 := size_of_below n4 hB3
      have c5 := Lib.hid (Send_cannot_str (i := 0) (x := ⟨T, b, c, m + 1, xs m ++ [.string ⟨#[122]⟩], false⟩) rfl H4 hB4 (.inr (by simp [xs_len])) ⟨#[121]⟩)
      go_wp2_with fail
      refine c5.out.mono ?_
      rintro e w5 ⟨rfl, H5, n5⟩
      clear c5
      have hB5 := size_of_below n5 hB4
      have c6 := Lib.hid (runs w5)
      go_wp2_with fail
      refine c6.out.mono ?_
      rintro e w6 ⟨rfl, n6⟩
      go_wp2_with fail
      go_ret
      exact ⟨rfl, HBe.out ▸ ((((br.trans n2).trans n3).trans n4).trans n5).trans (n6.mono hB5)⟩
theorem rooms (n : Int) (w : World) : Calls Try.prog 6 #[.int .i64 n] w fun e w' => e = .returned (.bool true) ∧ Below w.heap.size w w' := by
  by_cases h : n < 1 ∨ 4096 < n
  · exact rooms_bad n w h
  · have := rooms_ok n.toNat w (by omega) (by omega)
    rwa [show ((n.toNat : Nat) : Int) = n by omega] at this
end Go.Proofs.Ytaohnngadjhmjaa.mail
