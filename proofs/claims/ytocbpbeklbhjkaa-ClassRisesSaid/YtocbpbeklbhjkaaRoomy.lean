/- spoorbook.Roomy. -/
import Derived.Test.YtocbpbeklbhjkaaCopy
import Derived.Test.YtocbpbeklbhjkaaMembers
namespace Go.Proofs.Ytocbpbeklbhjkaa.cls
open Go.RowKit Go.Proofs.Ytocbpbeklbhjkaa.sl
theorem set_take {C : List Rg} {j : Nat} (r : Rg) (h : j < C.length) : (C.set j r).take (j + 1) = C.take j ++ [r] := by
  rw [List.take_add_one, List.getElem?_set_self h, List.take_set_of_le (Nat.le_refl j)]
  rfl
def pad : List Rg := List.replicate 80 (7, 5)
def roomyC (l : List Rg) : List Rg := l ++ (List.replicate (l.length + 80) ((0, 0) : Rg)).drop l.length
theorem roomyC_len (l : List Rg) : (roomyC l).length = l.length + 80 := by simp [roomyC]
theorem roomyC_take (l : List Rg) : (roomyC l).take l.length = l := by simp [roomyC]
theorem box_cells (w : World) (x y : Value) (E : TypeId) : (w.alloc (.cells #[x, y] E)).cell? ⟨w.heap.size, 0, none⟩ = some x ∧ (w.alloc (.cells #[x, y] E)).cell? ⟨w.heap.size, 1, none⟩ = some y := by
  have h := heap_alloc_new w (.cells #[x, y] E)
  constructor <;> simp only [World.cell?, h] <;> rfl
set_option maxHeartbeats 8000000 in
set_option maxRecDepth 100000 in
theorem roomy (a : Option Addr) (l : List Rg) (cap : Nat) (w : World) (h : Rd er w a l cap) (hl : l.length ≤ 1000000) :
    Calls Try.prog 16 #[.slice a l.length cap, .agg #[.int .i32 7, .int .i32 5]] w fun e w' => ∃ g cap', e = .returned (.slice (some ⟨g, 0, none⟩) (l.length + 80) cap') ∧ OwnR w.heap.size w' (.slice (some ⟨g, 0, none⟩) (l.length + 80) cap') (l ++ pad) ∧ Below w.heap.size w w' := by
  have hba := (Below.refl w.heap.size w).alloc (Nat.le_refl _) (.cells #[.int .i32 7, .int .i32 5] 25)
  have rr := h.kept hba
  have HB := Lib.hid hba
  have hbx := Lib.hid (box_cells w (.int .i32 7) (.int .i32 5) 25)
  have hsz : w.heap.size + 1 ≤ (w.alloc (.cells #[.int .i32 7, .int .i32 5] 25)).heap.size := by simp
  have hsz' := Lib.hid (show (w.alloc (.cells #[.int .i32 7, .int .i32 5] 25)).heap.size = w.heap.size + 1 by simp)
  clear h hba
  have LN := Lib.hid (show ((l.length : Int) + 80) = ((l.length + 80 : Nat) : Int) by omega)
  have hlr : l.length ≤ (List.replicate (l.length + 80) ((0, 0) : Rg)).length := by simp
  have HLR2 := Lib.hid (show l.length + 80 = (List.replicate (l.length + 80) ((0, 0) : Rg)).length by simp)
  go_enter Try.func16, Try.ntmps16
  go_wp2_with first | (at_make; go_must (refine wpList_makeK (B := w.heap.size + 1) (n := l.length + 80) (z0 := ((0, 0) : Rg)) (z := .agg #[.int .i32 0, .int .i32 0]) elem_rg (by kernel_rfl) rfl rfl rfl rfl rfl LN.out LN.out (by omega) (by omega) er_len hsz ?_); intro w1 o1 g1; rw [hsz'.out] at o1; have hb1 := Below.grown (Below.refl (w.heap.size + 1) _) g1 hsz (fun k hk => nomatch hk); have rr1 := rr.kept (Below.grown (Below.refl _ _) g1 (Nat.le_refl _) (fun k hk => nomatch hk))) | (refine wpList_copyK elem_rg rfl rfl rfl rfl o1 rr1 rfl HLR2.out hlr er_len er_one hb1 (Nat.le_refl _) ?_; intro w2 o2 hb2)
  change OwnR _ w2 _ (roomyC l) at o2
  have hg0 : w.heap.size < w2.heap.size := by have := hb2.size; omega
  have BX0 := (hb2.cell (p := ⟨w.heap.size, 0, none⟩) (Nat.lt_succ_self _)).trans hbx.out.1
  have BX1 := (hb2.cell (p := ⟨w.heap.size, 1, none⟩) (Nat.lt_succ_self _)).trans hbx.out.2
  have B2 := Lib.hid (HB.out.trans (hb2.mono (Nat.le_succ _)))
  have O2 := Lib.hid o2
  have X0 := Lib.hid (And.intro BX0 BX1)
  clear o2 hb2 BX0 BX1 rr hlr hb1 rr1 g1 o1 HB hbx hsz hsz' LN
  go_loopg [6] 80 (fun g i wr => ∃ (k : Nat) (C : List Rg), k ≤ 80 ∧ g = 80 - k ∧ i = .int .i64 ((l.length : Int) + k) ∧ OwnR (w.heap.size + 1) wr (.slice (some ⟨w.heap.size + 1, 0, none⟩) (l.length + 80) (l.length + 80)) C ∧ C.length = l.length + 80 ∧ C.take (l.length + k) = l ++ List.replicate k (7, 5) ∧ Below (w.heap.size + 1) w2 wr)
  case atStart => exact ⟨0, roomyC l, by omega, rfl, by simp, O2.out, roomyC_len l, by simpa using roomyC_take l, Below.refl _ _⟩
  case round =>
    obtain ⟨k, C, hk, rfl, rfl, ho, hC, ht, hb⟩ := hrel
    have HC := Lib.hid hC
    have HT := Lib.hid ht
    clear hC ht
    by_cases hlt : k < 80
    · obtain ⟨x, hx⟩ : ∃ x, C[l.length + k]? = some x := ⟨_, List.getElem?_eq_getElem (by have := HC.out; omega)⟩
      have bx0 := (hb.cell (p := ⟨w.heap.size, 0, none⟩) (Nat.lt_succ_self _)).trans X0.out.1
      have bx1 := (hb.cell (p := ⟨w.heap.size, 1, none⟩) (Nat.lt_succ_self _)).trans X0.out.2
      have i1 : (l.length : Int) + k < ((l.length + 80 : Nat) : Int) := by omega
      have eN : l.length + 80 = C.length := HC.out.symm
      have o3 := ho.store eN er_len (i := l.length + k) (t := 0) (x := x) (y := (7, x.2)) (u := .int .i32 7) hx (by omega) rfl
      have hx3 : (C.set (l.length + k) (7, x.2))[l.length + k]? = some (7, x.2) := List.getElem?_set_self (by have := HC.out; omega)
      have eN3 : l.length + 80 = (C.set (l.length + k) (7, x.2)).length := by simpa using eN
      have o4 := o3.store eN3 er_len (i := l.length + k) (t := 1) (x := (7, x.2)) (y := (7, 5)) (u := .int .i32 5) hx3 (by omega) rfl
      have f1 := ho.cellAt eN er_len (i := l.length + k) (t := 0) (x := x) (u := .int .i32 x.1) hx (by omega) rfl
      have f2 := o3.cellAt eN3 er_len (i := l.length + k) (t := 1) (x := (7, x.2)) (u := .int .i32 x.2) hx3 (by omega) rfl
      rw [List.set_set] at o4
      simp only [Nat.add_zero] at o3 o4 f1 f2
      obtain ⟨f1, f1'⟩ := f1
      obtain ⟨f2, f2'⟩ := f2
      have O4 := Lib.hid o4
      have HB4 := Lib.hid ((hb.setCell (p := (⟨w.heap.size + 1, (l.length + k) * 2, none⟩ : Addr)) (Nat.le_refl _) (.int .i32 7)).setCell (p := (⟨w.heap.size + 1, (l.length + k) * 2 + 1, none⟩ : Addr)) (Nat.le_refl _) (.int .i32 5))
      clear eN eN3 o3 o4 hx3 hx ho
      go_wp2_with fail
      go_roundg (80 - (k + 1))
      case measure => omega
      case rel =>
        refine ⟨k + 1, _, by omega, rfl, by go_num, O4.out, by simpa using HC.out, ?_, HB4.out⟩
        rw [← Nat.add_assoc, set_take (7, 5) (by have := HC.out; omega), HT.out, List.append_assoc, ← List.replicate_succ']
    · obtain rfl : k = 80 := by omega
      have i1 : ¬ (l.length : Int) + (80 : Nat) < ((l.length + 80 : Nat) : Int) := by omega
      go_wp2_with fail
      go_ret
      refine ⟨_, _, rfl, ?_, B2.out.trans (hb.mono (by have := B2.out.size; omega))⟩
      have eC : l ++ pad = C := by rw [show pad = List.replicate 80 (7, 5) from rfl, ← HT.out, ← HC.out, List.take_length]
      rw [eC]
      exact ho.mono (Nat.le_succ _)
end Go.Proofs.Ytocbpbeklbhjkaa.cls
