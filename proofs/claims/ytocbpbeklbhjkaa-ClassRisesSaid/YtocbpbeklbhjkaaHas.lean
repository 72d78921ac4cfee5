import Derived.Test.YtocbpbeklbhjkaaSl
namespace Go.Proofs.Ytocbpbeklbhjkaa.cls
open Go.RowKit Go.Proofs.Ytocbpbeklbhjkaa.sl
abbrev Rg := Int × Int
def er (r : Rg) : List Value := [.int .i32 r.1, .int .i32 r.2]
theorem er_len (r : Rg) : (er r).length = 2 := rfl
def hasB (l : List Rg) (r : Int) : Bool := l.any fun x => decide (x.1 ≤ r) && decide (r ≤ x.2)
theorem Rd.pair {w : World} {a : Option Addr} {l : List Rg} {cap : Nat} (h : Rd er w a l cap) {i : Nat} {x : Rg} (hx : l[i]? = some x) :
    ∃ b off, a = some ⟨b, off, none⟩ ∧ b < w.heap.size ∧ w.cell? ⟨b, off + i * 2, none⟩ = some (.int .i32 x.1) ∧ w.cell? ⟨b, off + i * 2 + 1, none⟩ = some (.int .i32 x.2) := by
  obtain ⟨b, off, h1, h2, h3⟩ := h.cells er_len hx
  exact ⟨b, off, h1, h2, h3 0 _ (by omega) rfl, by have := h3 1 (.int .i32 x.2) (by omega) rfl; rwa [← Nat.add_assoc] at this⟩
theorem has_step {l : List Rg} {k : Nat} {x : Rg} (h : l[k]? = some x) (r : Int) : hasB (l.drop k) r = ((decide (x.1 ≤ r) && decide (r ≤ x.2)) || hasB (l.drop (k + 1)) r) := by
  have hlt : k < l.length := by
    rcases Nat.lt_or_ge k l.length with h' | h'
    · exact h'
    · rw [List.getElem?_eq_none h'] at h; cases h
  rw [List.drop_eq_getElem_cons hlt]
  rw [List.getElem?_eq_getElem hlt] at h
  cases h
  rfl
theorem has_end (l : List Rg) (r : Int) : hasB (l.drop l.length) r = false := by simp [hasB]
set_option maxHeartbeats 1000000 in
theorem has (a : Option Addr) (l : List Rg) (cap : Nat) (r : Int) (w : World) (h : Rd er w a l cap) :
    Calls Try.prog 13 #[.slice a l.length cap, .int .i32 r] w fun e w' => e = .returned (.bool (hasB l r)) ∧ Below w.heap.size w w' := by
  have hm := h.max
  have hle := h.le
  unfold maxLen at hm
  have H := Lib.hid h
  clear h
  go_enter Try.func13, Try.ntmps13
  go_wp2_with fail
  go_loopg [9] l.length (fun g i wr => ∃ k : Nat, k ≤ l.length ∧ g = l.length - k ∧ i = .int .i64 k ∧ hasB l r = hasB (l.drop k) r ∧ Below w.heap.size w wr)
  case atStart => exact ⟨0, by omega, rfl, rfl, rfl, Below.refl _ _⟩
  case round =>
    obtain ⟨k, hk, rfl, rfl, hh, hb⟩ := hrel
    have HH := Lib.hid hh
    clear hh
    by_cases hlt : k < l.length
    · obtain ⟨x, hx⟩ : ∃ x, l[k]? = some x := ⟨_, List.getElem?_eq_getElem hlt⟩
      obtain ⟨b, off, rfl, hbl, c0, c1⟩ := Rd.pair (H.out.kept hb) hx
      have HX := Lib.hid hx
      clear hx
      go_wp2_with fail
      all_goals
        first
          | (go_ret
             refine ⟨?_, hb.alloc hb.size _⟩
             have e : (decide (x.1 ≤ r) && decide (r ≤ x.2)) = true := by simp; omega
             rw [HH.out, has_step HX.out, e]
             rfl)
          | (go_roundg (l.length - (k + 1))
             case measure => omega
             case rel =>
               refine ⟨k + 1, by omega, rfl, by go_num, ?_, hb.alloc hb.size _⟩
               have e : (decide (x.1 ≤ r) && decide (r ≤ x.2)) = false := by simp; omega
               rw [HH.out, has_step HX.out, e]
               rfl)
    · obtain rfl : k = l.length := by omega
      go_wp2_with fail
      go_ret
      exact ⟨by rw [HH.out]; simp [hasB], hb⟩
end Go.Proofs.Ytocbpbeklbhjkaa.cls
