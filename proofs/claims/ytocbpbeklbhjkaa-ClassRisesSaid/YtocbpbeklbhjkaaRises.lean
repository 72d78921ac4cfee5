/- spoorlaw9.rises at good ranges. -/
import Derived.Test.YtocbpbeklbhjkaaMakes
import Derived.Sort.AtCall
namespace Go.Proofs.Ytocbpbeklbhjkaa.cls
open Go.RowKit Go.Proofs.Ytocbpbeklbhjkaa.sl
theorem good_next {m : List Rg} (h : Good m) {j : Nat} {p x : Rg} (hp : m[j]? = some p) (hx : m[j + 1]? = some x) : p.2 + 1 < x.1 := by
  have h1 := lt_of_some hp
  have h2 := lt_of_some hx
  rw [List.getElem?_eq_getElem h1] at hp
  rw [List.getElem?_eq_getElem h2] at hx
  cases hp
  cases hx
  exact List.pairwise_iff_getElem.1 h.2 j (j + 1) h1 h2 (by omega)
set_option maxHeartbeats 2000000 in
set_option maxRecDepth 100000 in
theorem rises (a : Option Addr) (m : List Rg) (cap : Nat) (w : World) (h : Rd er w a m cap) (hg : Good m) :
    Calls Try.prog 22 #[.slice a m.length cap] w fun e w' => e = .returned (.bool true) ∧ Below w.heap.size w w' := by
  have hm1 := h.max
  have hle1 := h.le
  unfold maxLen at hm1
  have H := Lib.hid h
  have G := Lib.hid hg
  clear h hg
  go_enter Try.func22, Try.ntmps22
  go_wp2_with fail
  go_loopg [3] m.length (fun g i wr => ∃ k : Nat, k ≤ m.length ∧ g = m.length - k ∧ i = .int .i64 k ∧ Below w.heap.size w wr)
  case atStart => exact ⟨0, by omega, rfl, rfl, Below.refl _ _⟩
  case round =>
    obtain ⟨k, hk, rfl, rfl, hb⟩ := hrel
    by_cases hlt : k < m.length
    · obtain ⟨x, hx⟩ : ∃ x, m[k]? = some x := ⟨_, List.getElem?_eq_getElem hlt⟩
      obtain ⟨_, _, _, _, v1, v2, ip⟩ := good_ends G.out hx
      unfold InP at ip
      obtain ⟨ip1, ip2, ip3, ip4⟩ := ip
      have V1 := Lib.hid v1
      have V2 := Lib.hid v2
      obtain ⟨b, off, rfl, hbl, c0, c1⟩ := Rd.pair (H.out.kept hb) hx
      have g0 : decide (x.2 < x.1) = false := by simp; omega
      have g0' : ¬ x.2 < x.1 := by omega
      rcases k with _ | j
      · clear hx v1 v2
        simp only [Nat.zero_mul, Nat.add_zero] at c0 c1
        have i0 : (0 : Int) < (m.length : Int) := by omega
        have i00 : decide (0 < m.length) = true := by simp; omega
        by_cases hA : x.1 < 55296
        · have hA' : decide (x.1 < 55296) = true := by simp; omega
          have hB : ¬ 57343 < x.2 := by omega
          have hB' : decide (57343 < x.2) = false := by simp; omega
          go_wp2_with fail
          go_quiet (first | (go_at_call_has 21 (x.1); exact Calls.quiet_of_same (validV true x.1 _ V1.out)) | (go_at_call_has 21 (x.2); exact Calls.quiet_of_same (validV true x.2 _ V2.out)))
          go_wp2_with fail
          go_roundg (m.length - (0 + 1))
          case measure => omega
          case rel => exact ⟨0 + 1, by omega, rfl, by go_num, drewN_below hb _⟩
        · have hA' : decide (x.1 < 55296) = false := by simp; omega
          go_wp2_with fail
          go_quiet (first | (go_at_call_has 21 (x.1); exact Calls.quiet_of_same (validV true x.1 _ V1.out)) | (go_at_call_has 21 (x.2); exact Calls.quiet_of_same (validV true x.2 _ V2.out)))
          go_wp2_with fail
          go_roundg (m.length - (0 + 1))
          case measure => omega
          case rel => exact ⟨0 + 1, by omega, rfl, by go_num, drewN_below hb _⟩
      · obtain ⟨p, hp⟩ : ∃ p, m[j]? = some p := ⟨_, List.getElem?_eq_getElem (by omega)⟩
        have hn := good_next G.out hp hx
        obtain ⟨d0, d1⟩ := Rd.c01 (H.out.kept hb) hp
        have ipp := G.out.1 p (List.mem_of_getElem? hp)
        unfold InP at ipp
        obtain ⟨ipp1, ipp2, ipp3, -⟩ := ipp
        clear hx hp v1 v2
        have i0 : ((j + 1 : Nat) : Int) < (m.length : Int) := by omega
        have i0' : (j : Int) + 1 < (m.length : Int) := by omega
        have i1 : (j : Int) < (m.length : Int) := by omega
        have i2 : decide (x.1 ≤ p.2 + 1) = false := by simp; omega
        have i2' : ¬ x.1 ≤ p.2 + 1 := by omega
        have i3 : (0 : Int) < (j : Int) + 1 := by omega
        have i3' : decide ((0 : Int) < (j : Int) + 1) = true := decide_eq_true i3
        by_cases hA : x.1 < 55296
        · have hA' : decide (x.1 < 55296) = true := by simp; omega
          have hB : ¬ 57343 < x.2 := by omega
          have hB' : decide (57343 < x.2) = false := by simp; omega
          go_wp2_with fail
          go_quiet (first | (go_at_call_has 21 (x.1); exact Calls.quiet_of_same (validV true x.1 _ V1.out)) | (go_at_call_has 21 (x.2); exact Calls.quiet_of_same (validV true x.2 _ V2.out)))
          go_wp2_with fail
          go_roundg (m.length - (j + 1 + 1))
          case measure => omega
          case rel => exact ⟨j + 1 + 1, by omega, rfl, by go_num, drewN_below hb _⟩
        · have hA' : decide (x.1 < 55296) = false := by simp; omega
          go_wp2_with fail
          go_quiet (first | (go_at_call_has 21 (x.1); exact Calls.quiet_of_same (validV true x.1 _ V1.out)) | (go_at_call_has 21 (x.2); exact Calls.quiet_of_same (validV true x.2 _ V2.out)))
          go_wp2_with fail
          go_roundg (m.length - (j + 1 + 1))
          case measure => omega
          case rel => exact ⟨j + 1 + 1, by omega, rfl, by go_num, drewN_below hb _⟩
    · obtain rfl : k = m.length := by omega
      go_wp2_with fail
      go_ret
      exact ⟨rfl, hb⟩
end Go.Proofs.Ytocbpbeklbhjkaa.cls
