/- spoorref7.Right, spoorbook.Intact. -/
import Derived.Test.YtocbpbeklbhjkaaRoomy
namespace Go.Proofs.Ytocbpbeklbhjkaa.cls
open Go.RowKit Go.Proofs.Ytocbpbeklbhjkaa.sl
set_option maxHeartbeats 4000000 in
theorem refRight (a : Option Addr) (m : List Rg) (c1 : Nat) (w : World) (h : Rd er w a m c1) (hlen : m.length ≤ 100000) :
    Calls Try.prog 19 #[.slice a m.length c1] w fun e w' => e = .returned (.bool (decide (m = makeF m))) ∧ Below w.heap.size w w' := by
  have hm2 := h.max
  have hle2 := h.le
  unfold maxLen at hm2
  have HM := Lib.hid h
  have c := Lib.hid (refMakeC a m c1 w h hlen)
  have hml := (makeF_makes m).2.2
  clear h
  generalize makeF m = l at c hml
  go_enter Try.func19, Try.ntmps19
  go_wp2_with fail
  refine c.out.mono ?_
  rintro e w1 ⟨v1, rfl, o1, b1⟩
  clear c
  obtain ⟨a1, cap1, rfl, rd1, -⟩ := o1.rd
  have hm1 := rd1.max
  have hle1 := rd1.le
  unfold maxLen at hm1
  have H := Lib.hid rd1
  have H' := Lib.hid (HM.out.kept b1)
  have B1 := Lib.hid b1
  clear b1 rd1 o1 HM
  by_cases hl : l.length = m.length
  · have HL := Lib.hid hl
    have hb1 : ((l.length : Int) != (m.length : Int)) = false := by simp; omega
    clear hl
    go_wp2_with fail
    go_loopg [4] m.length (fun g i wr => ∃ k : Nat, k ≤ m.length ∧ g = m.length - k ∧ i = .int .i64 k ∧ l.take k = m.take k ∧ Below w1.heap.size w1 wr)
    case atStart => exact ⟨0, by omega, rfl, rfl, rfl, Below.refl _ _⟩
    case round =>
      obtain ⟨k, hk, rfl, rfl, hh, hb⟩ := hrel
      have HH := Lib.hid hh
      clear hh
      by_cases hlt : k < m.length
      · have hlt2 : k < l.length := by have := HL.out; omega
        obtain ⟨x, hx⟩ : ∃ x, l[k]? = some x := ⟨_, List.getElem?_eq_getElem hlt2⟩
        obtain ⟨y, hy⟩ : ∃ y, m[k]? = some y := ⟨_, List.getElem?_eq_getElem hlt⟩
        obtain ⟨b1, o1, rfl, hbl, c0, c1⟩ := Rd.pair (H.out.kept hb) hx
        obtain ⟨b2, o2, rfl, hbl2, c0', c1'⟩ := Rd.pair (H'.out.kept hb) hy
        have HX := Lib.hid hx
        have HY := Lib.hid hy
        clear hx hy
        have e1 := equalIn_rg
        have e2 := guard_rg
        have i1 : (k : Int) < (l.length : Int) := by omega
        have i2 : (k : Int) < (m.length : Int) := by omega
        cases hq : rgEq x y
        · go_wp2_with fail
          go_quiet (fail)
          go_wp2_with fail
          go_ret
          exact ⟨by rw [decide_eq_false fun e => take_ne HX.out HY.out (rgEq_false hq) e.symm]; rfl, B1.out.trans ((drewN_below hb _).mono B1.out.size)⟩
        · go_wp2_with fail
          go_quiet (fail)
          go_wp2_with fail
          go_roundg (m.length - (k + 1))
          case measure => omega
          case rel => exact ⟨k + 1, by omega, rfl, by go_num, take_step HX.out HY.out HH.out (rgEq_true hq), drewN_below hb _⟩
      · obtain rfl : k = m.length := by omega
        go_wp2_with fail
        go_ret
        refine ⟨?_, B1.out.trans (hb.mono B1.out.size)⟩
        have : l = m := by have := HH.out; rwa [List.take_length, ← HL.out, List.take_length] at this
        simp [this]
  · have HL := Lib.hid hl
    have hb1 : ((l.length : Int) != (m.length : Int)) = true := by simp; omega
    clear hl
    go_wp2_with fail
    go_ret
    exact ⟨by rw [decide_eq_false fun e : m = l => HL.out (congrArg _ e).symm]; rfl, B1.out⟩
theorem rgEq_refl (x : Rg) : rgEq x x = true := by simp [rgEq]
theorem pad_at (l : List Rg) {k : Nat} (h1 : l.length ≤ k) (h2 : k < l.length + 80) : (l ++ pad)[k]? = some (7, 5) := by
  rw [List.getElem?_append_right h1, pad, List.getElem?_replicate, if_pos (by omega)]
theorem pad_len (l : List Rg) : (l ++ pad).length = l.length + 80 := by simp [pad]
set_option maxHeartbeats 4000000 in
theorem intact (a b : Option Addr) (l : List Rg) (c1 c2 : Nat) (w : World) (h : Rd er w a (l ++ pad) c1) (h' : Rd er w b l c2) :
    Calls Try.prog 20 #[.slice a (l.length + 80) c1, .slice b l.length c2, .agg #[.int .i32 7, .int .i32 5]] w fun e w' => e = .returned (.bool true) ∧ Below w.heap.size w w' := by
  have hm1 := h.max
  have hle1 := h.le
  unfold maxLen at hm1
  rw [pad_len] at hle1
  have hb1 : (((l.length + 80 : Nat) : Int) != (l.length : Int) + 80) = false := by simp
  have hbx := Lib.hid (box_cells w (.int .i32 7) (.int .i32 5) 25)
  have hba := (Below.refl w.heap.size w).alloc (Nat.le_refl _) (.cells #[.int .i32 7, .int .i32 5] 25)
  have HF := Lib.hid (h.kept hba)
  have ht : Rd er w a l c1 := by have := Rd.take (n := l.length) h; rwa [List.take_left] at this
  have HT := Lib.hid (ht.kept hba)
  have H' := Lib.hid (h'.kept hba)
  have BA := Lib.hid hba
  have hsz : w.heap.size < (w.alloc (.cells #[.int .i32 7, .int .i32 5] 25)).heap.size := by simp
  have HN := h.none_
  have hpl := pad_len l
  obtain ⟨ad, rfl⟩ : ∃ ad, a = some ad := by
    rcases a with _ | ad
    · have := (HN rfl).1
      rw [this] at hpl
      simp at hpl
    · exact ⟨ad, rfl⟩
  clear h h' ht hba HN hpl
  go_enter Try.func20, Try.ntmps20
  go_wp2_with fail
  refine (sameT (some ad) b l l c1 c2 _ HT.out H'.out rfl).mono ?_
  generalize hW : w.alloc (.cells #[.int .i32 7, .int .i32 5] 25) = W at hbx HF HT H' BA hsz
  rintro e w1 ⟨rfl, b1⟩
  have RF := Lib.hid (HF.out.kept b1)
  have X0 := Lib.hid (And.intro ((b1.cell (p := ⟨w.heap.size, 0, none⟩) hsz).trans hbx.out.1) ((b1.cell (p := ⟨w.heap.size, 1, none⟩) hsz).trans hbx.out.2))
  have B1 := Lib.hid (BA.out.trans (b1.mono BA.out.size))
  have hs1 : w.heap.size < w1.heap.size := Nat.lt_of_lt_of_le hsz b1.size
  clear b1 hbx HF HT BA hsz hW H'
  go_wp2_with fail
  go_loopg [7] 80 (fun g i wr => ∃ k : Nat, k ≤ 80 ∧ g = 80 - k ∧ i = .int .i64 ((l.length : Int) + k) ∧ Below w1.heap.size w1 wr)
  case atStart => exact ⟨0, by omega, rfl, by simp, Below.refl _ _⟩
  case round =>
    obtain ⟨k, hk, rfl, rfl, hb⟩ := hrel
    by_cases hlt : k < 80
    · have hx : (l ++ pad)[l.length + k]? = some ((7, 5) : Rg) := pad_at l (by omega) (by omega)
      have bx0 := (hb.cell (p := ⟨w.heap.size, 0, none⟩) hs1).trans X0.out.1
      have bx1 := (hb.cell (p := ⟨w.heap.size, 1, none⟩) hs1).trans X0.out.2
      obtain ⟨b1, o1, e1', hbl, c0, c1⟩ := Rd.pair (RF.out.kept hb) hx
      cases e1'
      clear hx
      have e1 := equalIn_rg
      have e2 := guard_rg
      have e3 := rgEq_refl (7, 5)
      have i1 : (l.length : Int) + k < ((l.length + 80 : Nat) : Int) := by omega
      go_wp2_with fail
      go_quiet (fail)
      go_wp2_with fail
      go_roundg (80 - (k + 1))
      case measure => omega
      case rel => exact ⟨k + 1, by omega, rfl, by go_num, drewN_below hb _⟩
    · obtain rfl : k = 80 := by omega
      have i1 : ¬ (l.length : Int) + (80 : Nat) < ((l.length + 80 : Nat) : Int) := by omega
      go_wp2_with fail
      go_ret
      exact ⟨rfl, B1.out.trans (hb.mono (Nat.le_of_lt hs1))⟩
end Go.Proofs.Ytocbpbeklbhjkaa.cls
