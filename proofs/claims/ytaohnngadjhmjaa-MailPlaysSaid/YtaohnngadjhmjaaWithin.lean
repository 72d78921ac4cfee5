/- spoorbook.Within at the two pairs of ends that MailPlays asks for. -/
import Derived.Test.YtaohnngadjhmjaaPlayMem
namespace Go.Proofs.Ytaohnngadjhmjaa.play
open Go.RowKit Go.Proofs.Ytaohnngadjhmjaa.sl Go.Proofs.Ytaohnngadjhmjaa.mail
theorem tmod_bd (n : Int) {m : Int} (h : 0 < m) : Int.tmod n m < m ∧ -m < Int.tmod n m := by
  have h1 := Int.tmod_lt_of_pos n h
  have h2 := Int.tmod_lt_of_pos (-n) h
  rw [Int.neg_tmod] at h2
  omega
set_option maxHeartbeats 1000000 in
theorem within6 (n : Int) (w : World) : Calls Try.prog 16 #[.int .i64 n, .int .i64 1, .int .i64 6] w fun e w' => ∃ r : Nat, e = .returned (.int .i64 r) ∧ 1 ≤ r ∧ r ≤ 6 ∧ w' = w := by
  obtain ⟨b1, b2⟩ := tmod_bd n (show (0 : Int) < 6 by omega)
  go_enter Try.func16, Try.ntmps16
  go_wp2_with fail
  · go_ret
    exact ⟨(1 + (n.tmod 6 + 6)).toNat, by rw [Int.toNat_of_nonneg (by omega)]; rfl, by omega, by omega, rfl⟩
  · go_ret
    exact ⟨(1 + n.tmod 6).toNat, by rw [Int.toNat_of_nonneg (by omega)]; rfl, by omega, by omega, rfl⟩
set_option maxHeartbeats 1000000 in
theorem within3 (n : Int) (w : World) : Calls Try.prog 16 #[.int .i64 n, .int .i64 0, .int .i64 2] w fun e w' => ∃ r : Nat, e = .returned (.int .i64 r) ∧ r < 3 ∧ w' = w := by
  obtain ⟨b1, b2⟩ := tmod_bd n (show (0 : Int) < 3 by omega)
  go_enter Try.func16, Try.ntmps16
  go_wp2_with fail
  all_goals go_ret
  · refine ⟨(n.tmod 3 + 2 + 1).toNat, ?_, by omega, rfl⟩
    rw [Int.toNat_of_nonneg (by omega)]
    rfl
  · refine ⟨(n.tmod 3).toNat, ?_, by omega, rfl⟩
    rw [Int.toNat_of_nonneg (by omega)]
    rfl
end Go.Proofs.Ytaohnngadjhmjaa.play
