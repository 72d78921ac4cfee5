/- New, Len, Close, Closed of mail.Box; spoorbook.Within. -/
import Derived.Test.YtaohnngadjhmjaaBoxInt
import Derived.Test.YtaohnngadjhmjaaBoxStr
import Derived.Test.YtaohnngadjhmjaaBoxArr
import Derived.Conc.LoneSelectN
import Derived.Lib.Hide
namespace Go.Proofs.Ytaohnngadjhmjaa.mail
open Go.Conc Go.RowKit
def made (T : TypeId) (w : World) (n : Nat) : World := (w.alloc (.chan n #[] false 0 0 false)).alloc (.cells #[.chan (some w.heap.size), .bool false] T)

theorem new_ok_int (n : Nat) (w : World) (h1 : 1 ≤ n) (h2 : n ≤ 4096) :
    Calls Try.prog 7 #[.int .i64 n] w fun e w' => e = .returned (.tuple #[.pointer (some ⟨w.heap.size + 1, 0, none⟩), .int .i64 0]) ∧ w' = made 62 w n := by
  have hmc := fun w => mk_int w n h2
  have e1 : decide ((n : Int) < 1) = false := by simp; omega
  have e2 : decide ((4096 : Int) < n) = false := by simp; omega
  go_enter Try.func7, Try.ntmps7
  go_wp2
  go_ret2
  exact ⟨rfl, rfl⟩
theorem new_bad_int (n : Int) (w : World) (h : n < 1 ∨ 4096 < n) :
    Calls Try.prog 7 #[.int .i64 n] w fun e w' => e = .returned (.tuple #[.pointer none, .int .i64 1]) ∧ w' = w := by
  by_cases e1 : n < 1
  · go_enter Try.func7, Try.ntmps7
    go_wp2
    go_ret2
    exact ⟨rfl, rfl⟩
  · have e2 : 4096 < n := by omega
    go_enter Try.func7, Try.ntmps7
    go_wp2
    go_ret2
    exact ⟨rfl, rfl⟩

theorem len_int (b c cap s r : Nat) (buf : Array Value) (cl : Bool) (w : World) (h0 : w.cell? ⟨b, 0, none⟩ = some (.chan (some c)))
    (hc : w.heap[c]? = some (.chan cap buf cl s r false)) :
    Calls Try.prog 21 #[.pointer (some ⟨b, 0, none⟩)] w fun e w' => e = .returned (.int .i64 buf.size) ∧ w' = w := by
  have hlen := fun ty => run_len_chan (P := Try.prog) 60 ty Try.underlying60 hc
  go_enter Try.func21, Try.ntmps21
  go_wp2
  go_ret
  exact ⟨rfl, rfl⟩

theorem closed_int (b : Nat) (cl : Bool) (w : World) (h1 : w.cell? ⟨b, 1, none⟩ = some (.bool cl)) :
    Calls Try.prog 11 #[.pointer (some ⟨b, 0, none⟩)] w fun e w' => e = .returned (.bool cl) ∧ w' = w := by
  go_enter Try.func11, Try.ntmps11
  go_wp2
  go_ret
  exact ⟨rfl, rfl⟩
theorem close_again_int (b : Nat) (w : World) (h1 : w.cell? ⟨b, 1, none⟩ = some (.bool true)) :
    Calls Try.prog 10 #[.pointer (some ⟨b, 0, none⟩)] w fun e w' => e = .returned (.tuple #[]) ∧ w' = w := by
  go_enter Try.func10, Try.ntmps10
  go_wp2
  go_end0
  exact ⟨rfl, rfl⟩
theorem close_open_int (b c cap s r : Nat) (buf : Array Value) (w : World) (hbc : b ≠ c) (hf : w.frozen? ⟨b, 1, none⟩ = false) (h0 : w.cell? ⟨b, 0, none⟩ = some (.chan (some c))) (h1 : w.cell? ⟨b, 1, none⟩ = some (.bool false))
    (hc : w.heap[c]? = some (.chan cap buf false s r false)) :
    Calls Try.prog 10 #[.pointer (some ⟨b, 0, none⟩)] w fun e w' => e = .returned (.tuple #[]) ∧ w' = (w.setCell ⟨b, 1, none⟩ (.bool true)).setChan c cap buf true s r false := by
  have hc' : (w.setCell ⟨b, 1, none⟩ (.bool true)).heap[c]? = some (.chan cap buf false s r false) := by rw [Below.heap_setCell _ _ _ _ (Ne.symm hbc)]; exact hc
  have hcl := fun ats ty => run_close_open (P := Try.prog) (w := w.setCell ⟨b, 1, none⟩ (.bool true)) ats ty hc'
  go_enter Try.func10, Try.ntmps10
  go_wp2
  go_end0
  exact ⟨rfl, rfl⟩

theorem new_ok_str (n : Nat) (w : World) (h1 : 1 ≤ n) (h2 : n ≤ 4096) :
    Calls Try.prog 14 #[.int .i64 n] w fun e w' => e = .returned (.tuple #[.pointer (some ⟨w.heap.size + 1, 0, none⟩), .int .i64 0]) ∧ w' = made 67 w n := by
  have hmc := fun w => mk_str w n h2
  have e1 : decide ((n : Int) < 1) = false := by simp; omega
  have e2 : decide ((4096 : Int) < n) = false := by simp; omega
  go_enter Try.func14, Try.ntmps14
  go_wp2
  go_ret2
  exact ⟨rfl, rfl⟩
theorem new_bad_str (n : Int) (w : World) (h : n < 1 ∨ 4096 < n) :
    Calls Try.prog 14 #[.int .i64 n] w fun e w' => e = .returned (.tuple #[.pointer none, .int .i64 1]) ∧ w' = w := by
  by_cases e1 : n < 1
  · go_enter Try.func14, Try.ntmps14
    go_wp2
    go_ret2
    exact ⟨rfl, rfl⟩
  · have e2 : 4096 < n := by omega
    go_enter Try.func14, Try.ntmps14
    go_wp2
    go_ret2
    exact ⟨rfl, rfl⟩

theorem len_str (b c cap s r : Nat) (buf : Array Value) (cl : Bool) (w : World) (h0 : w.cell? ⟨b, 0, none⟩ = some (.chan (some c)))
    (hc : w.heap[c]? = some (.chan cap buf cl s r false)) :
    Calls Try.prog 23 #[.pointer (some ⟨b, 0, none⟩)] w fun e w' => e = .returned (.int .i64 buf.size) ∧ w' = w := by
  have hlen := fun ty => run_len_chan (P := Try.prog) 65 ty Try.underlying65 hc
  go_enter Try.func23, Try.ntmps23
  go_wp2
  go_ret
  exact ⟨rfl, rfl⟩

theorem new_ok_arr (n : Nat) (w : World) (h1 : 1 ≤ n) (h2 : n ≤ 4096) :
    Calls Try.prog 15 #[.int .i64 n] w fun e w' => e = .returned (.tuple #[.pointer (some ⟨w.heap.size + 1, 0, none⟩), .int .i64 0]) ∧ w' = made 70 w n := by
  have hmc := fun w => mk_arr w n h2
  have e1 : decide ((n : Int) < 1) = false := by simp; omega
  have e2 : decide ((4096 : Int) < n) = false := by simp; omega
  go_enter Try.func15, Try.ntmps15
  go_wp2
  go_ret2
  exact ⟨rfl, rfl⟩
theorem new_bad_arr (n : Int) (w : World) (h : n < 1 ∨ 4096 < n) :
    Calls Try.prog 15 #[.int .i64 n] w fun e w' => e = .returned (.tuple #[.pointer none, .int .i64 1]) ∧ w' = w := by
  by_cases e1 : n < 1
  · go_enter Try.func15, Try.ntmps15
    go_wp2
    go_ret2
    exact ⟨rfl, rfl⟩
  · have e2 : 4096 < n := by omega
    go_enter Try.func15, Try.ntmps15
    go_wp2
    go_ret2
    exact ⟨rfl, rfl⟩

theorem closed_arr (b : Nat) (cl : Bool) (w : World) (h1 : w.cell? ⟨b, 1, none⟩ = some (.bool cl)) :
    Calls Try.prog 19 #[.pointer (some ⟨b, 0, none⟩)] w fun e w' => e = .returned (.bool cl) ∧ w' = w := by
  go_enter Try.func19, Try.ntmps19
  go_wp2
  go_ret
  exact ⟨rfl, rfl⟩
theorem close_again_arr (b : Nat) (w : World) (h1 : w.cell? ⟨b, 1, none⟩ = some (.bool true)) :
    Calls Try.prog 17 #[.pointer (some ⟨b, 0, none⟩)] w fun e w' => e = .returned (.tuple #[]) ∧ w' = w := by
  go_enter Try.func17, Try.ntmps17
  go_wp2
  go_end0
  exact ⟨rfl, rfl⟩
theorem close_open_arr (b c cap s r : Nat) (buf : Array Value) (w : World) (hbc : b ≠ c) (hf : w.frozen? ⟨b, 1, none⟩ = false) (h0 : w.cell? ⟨b, 0, none⟩ = some (.chan (some c))) (h1 : w.cell? ⟨b, 1, none⟩ = some (.bool false))
    (hc : w.heap[c]? = some (.chan cap buf false s r false)) :
    Calls Try.prog 17 #[.pointer (some ⟨b, 0, none⟩)] w fun e w' => e = .returned (.tuple #[]) ∧ w' = (w.setCell ⟨b, 1, none⟩ (.bool true)).setChan c cap buf true s r false := by
  have hc' : (w.setCell ⟨b, 1, none⟩ (.bool true)).heap[c]? = some (.chan cap buf false s r false) := by rw [Below.heap_setCell _ _ _ _ (Ne.symm hbc)]; exact hc
  have hcl := fun ats ty => run_close_open (P := Try.prog) (w := w.setCell ⟨b, 1, none⟩ (.bool true)) ats ty hc'
  go_enter Try.func17, Try.ntmps17
  go_wp2
  go_end0
  exact ⟨rfl, rfl⟩

theorem ret_int {k : IntKind} {a b : Int} (h : a = b) : Ending.returned (.int k a) = .returned (.int k b) := by rw [h]
def within (n lo hi : Int) : Int := lo + (n.tmod (hi - lo + 1) + if n.tmod (hi - lo + 1) < 0 then hi - lo + 1 else 0)
theorem within_any (n lo hi : Int) (w : World) (h0 : 0 ≤ lo) (h1 : lo ≤ hi) (h2 : hi ≤ 1000) (n1 : -9223372036854775808 ≤ n) (n2 : n ≤ 9223372036854775807) :
    Calls Try.prog 16 #[.int .i64 n, .int .i64 lo, .int .i64 hi] w fun e w' => e = .returned (.int .i64 (within n lo hi)) ∧ w' = w := by
  have hb := Int.tmod_lt_of_pos n (show 0 < hi - lo + 1 by omega)
  have hb2 : -(hi - lo + 1) < n.tmod (hi - lo + 1) := by
    have := Int.lt_tmod_of_pos n (show 0 < hi - lo + 1 by omega)
    omega
  have hnz : ((hi - lo + 1 : Int) == 0) = false := by simp; omega
  go_enter Try.func16, Try.ntmps16
  go_wp2
  all_goals go_ret
  · rename_i h
    exact ⟨by unfold within; rw [if_pos h]; exact ret_int (by omega), rfl⟩
  · rename_i h
    exact ⟨by unfold within; rw [if_neg (by omega)]; exact ret_int (by omega), rfl⟩
theorem within_bd (n lo hi : Int) (h1 : lo ≤ hi) : lo ≤ within n lo hi ∧ within n lo hi ≤ hi := by
  have hb := Int.tmod_lt_of_pos n (show 0 < hi - lo + 1 by omega)
  have hb2 := Int.lt_tmod_of_pos n (show 0 < hi - lo + 1 by omega)
  unfold within
  split <;> omega
end Go.Proofs.Ytaohnngadjhmjaa.mail

