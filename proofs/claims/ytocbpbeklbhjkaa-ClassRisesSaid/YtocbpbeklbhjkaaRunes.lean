/- class.runes; the closure of class.Make; few; valid. -/
import Derived.Test.YtocbpbeklbhjkaaHas
import Derived.Lib.MinMax
import Derived.Deep.DeepMust
namespace Go.Proofs.Ytocbpbeklbhjkaa.cls
open Go.RowKit Go.Proofs.Ytocbpbeklbhjkaa.sl
theorem er_one (r : Rg) : ∀ u ∈ er r, u.oneCell' = true := by
  intro u hu
  simp [er] at hu
  rcases hu with rfl | rfl <;> rfl
theorem elem_rg : ElemTy Try.prog 22 25 2 8 := ElemTy.mk' (z := .agg #[.int .i32 0, .int .i32 0]) Try.underlying22 (by kernel_rfl) rfl (by decide)
abbrev OwnR (B : Nat) (w : World) (v : Value) (l : List Rg) : Prop := Own er 2 25 B w v l
def clip (r p : Rg) : List Rg := if max r.1 p.1 ≤ min r.2 p.2 then [(max r.1 p.1, min r.2 p.2)] else []
def parts : List Rg := [(0, 55295), (57344, 1114111)]
def runesF (r : Rg) : List Rg := parts.flatMap (clip (max r.1 0, min r.2 1114111))
theorem clip_len (r p : Rg) : (clip r p).length ≤ 1 := by unfold clip; split <;> simp
theorem runes_len (r : Rg) : (runesF r).length ≤ 2 := flat_len_le _ 1 (clip_len _) parts
set_option maxHeartbeats 2000000 in
theorem runes (x y : Int) (w : World) :
    Calls Try.prog 23 #[.agg #[.int .i32 x, .int .i32 y]] w fun e w' => ∃ v, e = .returned v ∧ OwnR w.heap.size w' v (runesF (x, y)) ∧ Below w.heap.size w w' := by
  obtain ⟨lo, hlo⟩ : ∃ lo, lo = max x 0 := ⟨_, rfl⟩
  obtain ⟨hi, hhi⟩ : ∃ hi, hi = min y 1114111 := ⟨_, rfl⟩
  have HLO := Lib.hid hlo
  have HHI := Lib.hid hhi
  clear hlo hhi
  go_enter Try.func23, Try.ntmps23
  go_wp2_with fail
  rw [← HLO.out, ← HHI.out]
  obtain ⟨W1, hW1⟩ : ∃ W1, W1 = (w.alloc (.cells #[.int .i32 lo, .int .i32 hi] 25)).alloc (.cells #[.int .i32 0, .int .i32 55295, .int .i32 57344, .int .i32 1114111] 25) := ⟨_, rfl⟩
  have hR : Rd er W1 (some ⟨w.heap.size + 1, 0, none⟩) parts 2 := by
    subst hW1
    have := Rd.built (enc := er) (w := w.alloc (.cells #[.int .i32 lo, .int .i32 hi] 25)) (E := 25) (cs := #[.int .i32 0, .int .i32 55295, .int .i32 57344, .int .i32 1114111]) parts 2 rfl rfl (by omega)
    simpa using this
  have hbW : Below w.heap.size w W1 := by
    subst hW1
    exact ((Below.refl _ _).alloc (Nat.le_refl _) _).alloc (by simp) _
  have hc0 : W1.cell? ⟨w.heap.size, 0, none⟩ = some (.int .i32 lo) := by subst hW1; simp [go_sem]
  have hc1 : W1.cell? ⟨w.heap.size, 1, none⟩ = some (.int .i32 hi) := by subst hW1; simp [go_sem]
  have hsz : w.heap.size < W1.heap.size := by subst hW1; simp; omega
  rw [← hW1]
  clear hW1
  go_loopg [3, 19] 2 (fun g v i wr => ∃ k : Nat, k ≤ 2 ∧ g = 2 - k ∧ i = .int .i64 k ∧ OwnR W1.heap.size wr v ((parts.take k).flatMap (clip (lo, hi))) ∧ Below w.heap.size w wr ∧ Below W1.heap.size W1 wr)
  case atStart => exact ⟨0, by omega, rfl, rfl, Own.nil _ _ _ _ _, hbW, Below.refl _ _⟩
  case round =>
    obtain ⟨k, hk, rfl, rfl, ho, hb, hb1⟩ := hrel
    have hs := hb.size
    by_cases hlt : k < 2
    · obtain ⟨⟨p0, p1⟩, hx⟩ : ∃ x, parts[k]? = some x := ⟨_, List.getElem?_eq_getElem hlt⟩
      obtain ⟨b2, o2, e2, hbl2, c0, c1⟩ := Rd.pair (hR.kept hb1) hx
      cases e2
      simp only [Nat.zero_add] at c0 c1
      have d0 := (hb1.cell (p := ⟨w.heap.size, 0, none⟩) hsz).trans hc0
      have d1 := (hb1.cell (p := ⟨w.heap.size, 1, none⟩) hsz).trans hc1
      have hsz1 : w.heap.size < wr.heap.size := Nat.lt_of_lt_of_le hsz hb1.size
      have HX := Lib.hid hx
      clear hx
      have hlen := flat_len_le (clip (lo, hi)) 1 (clip_len _) (parts.take k)
      have hl2 : (parts.take k).length ≤ 2 := by simp [parts]; omega
      by_cases hq : max lo p0 ≤ min hi p1
      · go_wp2_with (at_builtin; go_must (refine wpList_app1 elem_rg rfl rfl rfl rfl (by simp) ((ho.alloc _).alloc _) (max lo p0, min hi p1) rfl er_len er_one (by omega) (by omega) (by have := hb1.size; simp; omega) ?_); intro v1 w1 o1 g1)
        go_roundg (2 - (k + 1))
        case measure => omega
        case rel =>
          have hcl : clip (lo, hi) (p0, p1) = [(max lo p0, min hi p1)] := by unfold clip; rw [if_pos hq]
          have ho2 := (ho.alloc (.cells #[.int .i32 p0, .int .i32 p1] 25)).alloc (.cells #[.int .i32 (max lo p0), .int .i32 (min hi p1)] 25)
          have bA := ((Below.refl wr.heap.size wr).alloc (Nat.le_refl _) (.cells #[.int .i32 p0, .int .i32 p1] 25)).alloc (by simp) (.cells #[.int .i32 (max lo p0), .int .i32 (min hi p1)] 25)
          refine ⟨k + 1, by omega, rfl, by go_num, ?_, ?_, ?_⟩
          · rw [take_flat _ HX.out, hcl]
            exact o1
          · exact grow_below (hb.trans (bA.mono hs)) ho2 g1 hbW.size (by simp; omega)
          · exact grow_below (hb1.trans (bA.mono hb1.size)) ho2 g1 (Nat.le_refl _) (by have := hb1.size; simp; omega)
      · go_wp2_with fail
        go_roundg (2 - (k + 1))
        case measure => omega
        case rel =>
          have hcl : clip (lo, hi) (p0, p1) = [] := by unfold clip; rw [if_neg (show ¬ max lo p0 ≤ min hi p1 by omega)]
          have bA := ((Below.refl wr.heap.size wr).alloc (Nat.le_refl _) (.cells #[.int .i32 p0, .int .i32 p1] 25)).alloc (by simp) (.cells #[.int .i32 (max lo p0), .int .i32 (min hi p1)] 25)
          refine ⟨k + 1, by omega, rfl, by go_num, ?_, hb.trans (bA.mono hs), hb1.trans (bA.mono hb1.size)⟩
          rw [take_flat _ HX.out, hcl, List.append_nil]
          exact (ho.alloc _).alloc _
    · obtain rfl : k = 2 := by omega
      go_wp2_with fail
      go_ret
      refine ⟨_, rfl, ?_, hb⟩
      have e : runesF (x, y) = (parts.take 2).flatMap (clip (lo, hi)) := by simp only [runesF, HLO.out, HHI.out]; rfl
      rw [e]
      exact ho.mono hbW.size
end Go.Proofs.Ytocbpbeklbhjkaa.cls
