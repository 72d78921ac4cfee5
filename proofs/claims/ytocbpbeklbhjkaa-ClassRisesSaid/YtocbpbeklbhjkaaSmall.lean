/- The closure of class.Make; valid; few. -/
import Derived.Test.YtocbpbeklbhjkaaHas
namespace Go.Proofs.Ytocbpbeklbhjkaa.cls
open Go.RowKit Go.Proofs.Ytocbpbeklbhjkaa.sl
def validB (r : Int) : Bool := decide (0 ≤ r) && decide (r ≤ 1114111) && (decide (r < 55296) || decide (57343 < r))
set_option maxHeartbeats 2000000 in
theorem valid (r : Int) (w : World) : Calls Try.prog 21 #[.int .i32 r] w fun e w' => e = .returned (.bool (validB r)) ∧ w' = w := by
  go_enter Try.func21, Try.ntmps21
  go_wp2_with fail
  all_goals (go_ret; refine ⟨?_, rfl⟩)
  · show Ending.returned (.bool (decide (r < 55296) || decide (57343 < r))) = _
    have e1 : decide (0 ≤ r) = true := by simp; omega
    have e2 : decide (r ≤ 1114111) = true := by simp; omega
    simp [validB, e1, e2]
  · show Ending.returned (.bool true) = _
    have e1 : validB r = true := by simp [validB]; omega
    rw [e1]
  all_goals
    show Ending.returned (.bool false) = _
    have e1 : validB r = false := by simp [validB]; omega
    rw [e1]
set_option maxHeartbeats 2000000 in
theorem cmp (x y : Rg) (w : World) (h : -2147483648 ≤ x.1 - y.1 ∧ x.1 - y.1 ≤ 2147483647) : Calls Try.prog 25 #[.agg #[.int .i32 x.1, .int .i32 x.2], .agg #[.int .i32 y.1, .int .i32 y.2]] w fun e w' => e = .returned (.int .i64 (x.1 - y.1)) ∧ w' = (w.alloc (.cells #[.int .i32 x.1, .int .i32 x.2] 25)).alloc (.cells #[.int .i32 y.1, .int .i32 y.2] 25) := by
  obtain ⟨h1, h2⟩ := h
  go_enter Try.func25, Try.ntmps25
  go_wp2_with fail
  go_ret
  exact ⟨rfl, rfl⟩
theorem Rd.take {w : World} {a : Option Addr} {l : List Rg} {cap n : Nat} (h : Rd er w a l cap) : Rd er w a (l.take n) cap := by
  refine ⟨fun e => by simp [h.none_ e], by simp; have := h.le; omega, h.max, fun ad e => ?_⟩
  obtain ⟨h1, h2, h3⟩ := h.at_ ad e
  refine ⟨h1, h2, fun j u hj => h3 j u ?_⟩
  have e : flat er l = flat er (l.take n) ++ flat er (l.drop n) := by rw [← flat_append, List.take_append_drop]
  have hj' : j < (flat er (l.take n)).length := by
    rcases Nat.lt_or_ge j (flat er (l.take n)).length with h | h
    · exact h
    · rw [List.getElem?_eq_none h] at hj; cases hj
  rw [e, List.getElem?_append_left hj']
  exact hj
set_option maxHeartbeats 2000000 in
theorem few (a : Option Addr) (l : List Rg) (cap : Nat) (w : World) (h : Rd er w a l cap) :
    Calls Try.prog 15 #[.slice a l.length cap] w fun e w' => e = .returned (.slice a (l.take 40).length cap) ∧ w' = w := by
  have hm := h.max
  have hle := h.le
  unfold maxLen at hm
  have hn := h.none_
  by_cases h40 : 40 < l.length
  · have e40 : (l.take 40).length = 40 := by simp; omega
    rcases a with _ | ad
    · have := (hn rfl).1
      simp [this] at h40
    clear hn
    rw [e40]
    go_enter Try.func15, Try.ntmps15
    go_wp2_with fail
    go_ret
    exact ⟨rfl, rfl⟩
  · have e40 : (l.take 40).length = l.length := by simp; omega
    rw [e40]
    clear hn
    go_enter Try.func15, Try.ntmps15
    go_wp2_with fail
    go_ret
    exact ⟨rfl, rfl⟩
end Go.Proofs.Ytocbpbeklbhjkaa.cls
