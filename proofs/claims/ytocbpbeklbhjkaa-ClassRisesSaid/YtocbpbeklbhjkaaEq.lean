/- Two lists held against each other: spoorbook.Same, slices.Equal. -/
import Derived.Test.YtocbpbeklbhjkaaHas
namespace Go.Proofs.Ytocbpbeklbhjkaa.cls
open Go.RowKit Go.Proofs.Ytocbpbeklbhjkaa.sl
theorem und_rg : Try.prog.underlying 25 = some (.struct (Try.prog.fieldsOf 25)) := by kernel_rfl
theorem held_rg : Try.prog.stoodInHeld 25 = false := by kernel_rfl
theorem guard_rg : Try.prog.eqGuardType Try.prog.depth 25 = false := by kernel_rfl
theorem fields_rg : (Try.prog.fieldsOf 25).toList.map (fun f => (f.type, f.offset, f.name)) = [(21, 0, "Lo"), (21, 1, "Hi")] := by kernel_rfl
def rgEq (x y : Rg) : Bool := x.1 == y.1 && x.2 == y.2
theorem rgEq_true {x y : Rg} (h : rgEq x y = true) : x = y := by
  obtain ⟨a, b⟩ := x
  obtain ⟨c, d⟩ := y
  simp [rgEq] at h
  simp [h]
theorem rgEq_false {x y : Rg} (h : rgEq x y = false) : x ≠ y := by
  rintro rfl
  simp [rgEq] at h
theorem equalIn_rg (x y : Rg) (W : World) : (Op.equalIn 10000 25 (.agg #[.int .i32 x.1, .int .i32 x.2]) (.agg #[.int .i32 y.1, .int .i32 y.2])).run Try.prog W = .ok (rgEq x y) W := by
  rw [run_equalIn_agg W 9999 25 _ _ und_rg held_rg]
  have hf := fields_rg
  rcases hl : (Try.prog.fieldsOf 25).toList with _ | ⟨f, _ | ⟨g, _ | ⟨u, t⟩⟩⟩ <;> rw [hl] at hf <;> simp at hf
  obtain ⟨⟨h1, h2, h3⟩, h4, h5, h6⟩ := hf
  have i := Try.underlying21
  simp [Op.eqFields, h1, h2, h3, h4, h5, h6, go_sem, i]
  obtain ⟨a, b⟩ := x
  obtain ⟨c, d⟩ := y
  simp only [rgEq]
  by_cases h1 : a = c <;> by_cases h2 : b = d <;> simp [h1, h2]
theorem take_step {l m : List Rg} {k : Nat} {x y : Rg} (hx : l[k]? = some x) (hy : m[k]? = some y) (h : l.take k = m.take k) (e : x = y) : l.take (k + 1) = m.take (k + 1) := by
  rw [List.take_add_one, List.take_add_one, h, hx, hy, e]
theorem take_ne {l m : List Rg} {k : Nat} {x y : Rg} (hx : l[k]? = some x) (hy : m[k]? = some y) (e : x ≠ y) : l ≠ m := by
  rintro rfl
  rw [hx] at hy
  cases hy
  exact e rfl
set_option maxHeartbeats 2000000 in
theorem same (a b : Option Addr) (l m : List Rg) (c1 c2 : Nat) (w : World) (h : Rd er w a l c1) (h' : Rd er w b m c2) :
    Calls Try.prog 10 #[.slice a l.length c1, .slice b m.length c2] w fun e w' => e = .returned (.bool (decide (l = m))) ∧ Below w.heap.size w w' := by
  have hm1 := h.max
  have hle1 := h.le
  have hm2 := h'.max
  have hle2 := h'.le
  unfold maxLen at hm1 hm2
  have H := Lib.hid h
  have H' := Lib.hid h'
  clear h h'
  by_cases hl : l.length = m.length
  · have HL := Lib.hid hl
    have hb1 : ((l.length : Int) != (m.length : Int)) = false := by simp; omega
    clear hl
    go_enter Try.func10, Try.ntmps10
    go_wp2_with fail
    go_loopg [5] l.length (fun g i wr => ∃ k : Nat, k ≤ l.length ∧ g = l.length - k ∧ i = .int .i64 k ∧ l.take k = m.take k ∧ Below w.heap.size w wr)
    case atStart => exact ⟨0, by omega, rfl, rfl, rfl, Below.refl _ _⟩
    case round =>
      obtain ⟨k, hk, rfl, rfl, hh, hb⟩ := hrel
      have HH := Lib.hid hh
      clear hh
      by_cases hlt : k < l.length
      · have hlt2 : k < m.length := by have := HL.out; omega
        obtain ⟨x, hx⟩ : ∃ x, l[k]? = some x := ⟨_, List.getElem?_eq_getElem hlt⟩
        obtain ⟨y, hy⟩ : ∃ y, m[k]? = some y := ⟨_, List.getElem?_eq_getElem hlt2⟩
        obtain ⟨b1, o1, rfl, hbl, c0, c1⟩ := Rd.pair (H.out.kept hb) hx
        obtain ⟨b2, o2, rfl, hbl2, c0', c1'⟩ := Rd.pair (H'.out.kept hb) hy
        have HX := Lib.hid hx
        have HY := Lib.hid hy
        clear hx hy
        have e1 := equalIn_rg
        have e2 := guard_rg
        have i1 : (k : Int) < (l.length : Int) := by omega
        have i2 : (k : Int) < (m.length : Int) := by omega
        cases hq : rgEq x y
        · go_wp2_with fail
          go_quiet (fail)
          go_wp2_with fail
          go_ret
          exact ⟨by rw [decide_eq_false (take_ne HX.out HY.out (rgEq_false hq))]; rfl, drewN_below hb _⟩
        · go_wp2_with fail
          go_quiet (fail)
          go_wp2_with fail
          go_roundg (l.length - (k + 1))
          case measure => omega
          case rel => exact ⟨k + 1, by omega, rfl, by go_num, take_step HX.out HY.out HH.out (rgEq_true hq), drewN_below hb _⟩
      · obtain rfl : k = l.length := by omega
        go_wp2_with fail
        go_ret
        refine ⟨?_, hb⟩
        have : l = m := by have := HH.out; rwa [List.take_length, HL.out, List.take_length] at this
        simp [this]
  · have HL := Lib.hid hl
    have hb1 : ((l.length : Int) != (m.length : Int)) = true := by simp; omega
    clear hl
    go_enter Try.func10, Try.ntmps10
    go_wp2_with fail
    go_ret
    exact ⟨by rw [decide_eq_false fun e : l = m => HL.out (congrArg _ e)]; rfl, Below.refl _ _⟩
set_option maxHeartbeats 2000000 in
theorem equal (a b : Option Addr) (l m : List Rg) (c1 c2 : Nat) (w : World) (h : Rd er w a l c1) (h' : Rd er w b m c2) :
    Calls Try.prog 26 #[.slice a l.length c1, .slice b m.length c2] w fun e w' => e = .returned (.bool (decide (l = m))) ∧ Below w.heap.size w w' := by
  have hm1 := h.max
  have hle1 := h.le
  have hm2 := h'.max
  have hle2 := h'.le
  unfold maxLen at hm1 hm2
  have H := Lib.hid h
  have H' := Lib.hid h'
  clear h h'
  by_cases hl : l.length = m.length
  · have HL := Lib.hid hl
    have hb1 : ((l.length : Int) != (m.length : Int)) = false := by simp; omega
    clear hl
    go_enter Try.func26, Try.ntmps26
    go_wp2_with fail
    go_loopg [13] l.length (fun g i wr => ∃ k : Nat, k ≤ l.length ∧ g = l.length - k ∧ i = .int .i64 k ∧ l.take k = m.take k ∧ Below w.heap.size w wr)
    case atStart => exact ⟨0, by omega, rfl, rfl, rfl, Below.refl _ _⟩
    case round =>
      obtain ⟨k, hk, rfl, rfl, hh, hb⟩ := hrel
      have HH := Lib.hid hh
      clear hh
      by_cases hlt : k < l.length
      · have hlt2 : k < m.length := by have := HL.out; omega
        obtain ⟨x, hx⟩ : ∃ x, l[k]? = some x := ⟨_, List.getElem?_eq_getElem hlt⟩
        obtain ⟨y, hy⟩ : ∃ y, m[k]? = some y := ⟨_, List.getElem?_eq_getElem hlt2⟩
        obtain ⟨b1, o1, rfl, hbl, c0, c1⟩ := Rd.pair (H.out.kept hb) hx
        obtain ⟨b2, o2, rfl, hbl2, c0', c1'⟩ := Rd.pair (H'.out.kept hb) hy
        have HX := Lib.hid hx
        have HY := Lib.hid hy
        clear hx hy
        have e1 := equalIn_rg
        have e2 := guard_rg
        have i1 : (k : Int) < (l.length : Int) := by omega
        have i2 : (k : Int) < (m.length : Int) := by omega
        cases hq : rgEq x y
        · go_wp2_with fail
          go_quiet (fail)
          go_wp2_with fail
          go_ret
          exact ⟨by rw [decide_eq_false (take_ne HX.out HY.out (rgEq_false hq))]; rfl, drewN_below hb _⟩
        · go_wp2_with fail
          go_quiet (fail)
          go_wp2_with fail
          go_roundg (l.length - (k + 1))
          case measure => omega
          case rel => exact ⟨k + 1, by omega, rfl, by go_num, take_step HX.out HY.out HH.out (rgEq_true hq), drewN_below hb _⟩
      · obtain rfl : k = l.length := by omega
        go_wp2_with fail
        go_ret
        refine ⟨?_, hb⟩
        have : l = m := by have := HH.out; rwa [List.take_length, HL.out, List.take_length] at this
        simp [this]
  · have HL := Lib.hid hl
    have hb1 : ((l.length : Int) != (m.length : Int)) = true := by simp; omega
    clear hl
    go_enter Try.func26, Try.ntmps26
    go_wp2_with fail
    go_ret
    exact ⟨by rw [decide_eq_false fun e : l = m => HL.out (congrArg _ e)]; rfl, Below.refl _ _⟩
end Go.Proofs.Ytocbpbeklbhjkaa.cls
