/- syntax.joined, walked. -/
import Derived.Test.YtooockbfagkknaaGreatDoorPar1
namespace Go.Proofs.YtooockbfagkknaaGreatDoor.syn
open Go.RowKit Go.Proofs.YtooockbfagkknaaGreatDoor.sl Go.Proofs.YtooockbfagkknaaGreatDoor.cls
theorem take_le {α β : Type} (f : α → List β) (l : List α) (k : Nat) : ((l.take k).flatMap f).length ≤ (l.flatMap f).length := by
  have e : l.flatMap f = (l.take k).flatMap f ++ (l.drop k).flatMap f := by rw [← List.flatMap_append, List.take_append_drop]
  rw [e, List.length_append]
  omega
theorem take_le2 {α β : Type} (f : α → List β) (l : List α) {k : Nat} {x : α} (h : l[k]? = some x) : ((l.take k).flatMap f).length + (f x).length ≤ (l.flatMap f).length := by
  have := take_le f l (k + 1)
  rw [take_flat f h, List.length_append] at this
  exact this
theorem flatten_pv (vs : List PV) : (vs.map PV.l).flatten = (vs.flatMap PV.ls).map NdV.x := by
  induction vs with
  | nil => rfl
  | cons x t ih => rw [List.map_cons, List.flatten_cons, ih, List.flatMap_cons, List.map_append]; rfl
theorem joined_two (op : Int) (x y : PV) (t : List PV) : joined op ((x :: y :: t).map PV.l) = { nd op with kids := (x :: y :: t).length } :: ((x :: y :: t).flatMap PV.ls).map NdV.x := by
  rw [← flatten_pv]
  simp [joined]
set_option maxHeartbeats 4000000 in
set_option maxRecDepth 100000 in
theorem joinedC {B : Nat} (op : Int) (a : Option Addr) (vs : List PV) (cap : Nat) (w : World) (h : Rd eP w a vs cap) (hp : ∀ p ∈ vs, NdsV B w p.v p.ls) (hB : B ≤ w.heap.size) (hmax : (vs.flatMap PV.ls).length ≤ 100000) :
    Calls Tryz.prog 32 #[.int .i64 op, .slice a vs.length cap] w fun e w' => ∃ v, e = .returned v ∧ Nds B w' v (joined op (vs.map PV.l)) ∧ Below w.heap.size w w' := by
  have hm := h.max
  have hle := h.le
  unfold maxLen at hm
  have H := Lib.hid h
  have HP := Lib.hid hp
  clear h hp
  rcases vs with _ | ⟨x, _ | ⟨y, t⟩⟩
  · go_enter Tryz.func32, Tryz.ntmps32
    go_wp2_with fail
    go_ret
    exact ⟨_, rfl, ⟨_, rfl, ndsV_one hB ⟨nd 1, none, 0, 0⟩ (Own.nil _ _ _ _ _)⟩, (Below.refl w.heap.size w).alloc (Nat.le_refl _) _⟩
  · obtain ⟨b, off, rfl, hbl, hc⟩ := H.out.cells eP_len (i := 0) (x := x) rfl
    have c0 := hc 0 (.slice x.a x.n x.c) (by omega) rfl
    simp only [Nat.zero_mul, Nat.add_zero] at c0
    have hx := HP.out x (by simp)
    have HX := Lib.hid hx
    clear hc hx
    go_enter Tryz.func32, Tryz.ntmps32
    go_wp2_with fail
    go_ret
    exact ⟨_, rfl, ⟨x.ls, rfl, HX.out⟩, Below.refl _ _⟩
  · rw [joined_two]
    have n1 : ((x :: y :: t).length == 0) = false := rfl
    have hl2 : 2 ≤ (x :: y :: t).length := by simp
    generalize x :: y :: t = vs at *
    clear n1
    have z0 : ((vs.length : Int) == 0) = false := by rw [beq_eq_false_iff_ne]; omega
    have z1 : ((vs.length : Int) == 1) = false := by rw [beq_eq_false_iff_ne]; omega
    go_enter Tryz.func32, Tryz.ntmps32
    go_wp2_with fail
    have o0 := ndsV_one hB ⟨{ nd op with kids := vs.length }, none, 0, 0⟩ (Own.nil er 2 58 B w)
    have b0 := (Below.refl w.heap.size w).alloc (Nat.le_refl _) (.cells #[.int .i64 op, .slice none 0 0, .int .i64 0, .int .i64 0, .bool false, .int .i64 0, .int .i64 vs.length] 35)
    have o1 : OwnN w.heap.size (w.alloc (.cells #[.int .i64 op, .slice none 0 0, .int .i64 0, .int .i64 0, .bool false, .int .i64 0, .int .i64 vs.length] 35)) (.slice (some ⟨w.heap.size, 0, none⟩) 1 1) [⟨{ nd op with kids := vs.length }, none, 0, 0⟩] := own_lit w _ _ 1 rfl eN_len rfl (Nat.le_refl _) (by omega)
    have O1 := Lib.hid o1
    have B0 := Lib.hid b0
    clear o0 b0 o1
    generalize hy : (⟨{ nd op with kids := vs.length }, none, 0, 0⟩ : NdV) = y0 at O1
    have HY := Lib.hid hy
    clear hy
    go_loopg [5, 7, 26] vs.length (fun g out x i wr => ∃ k : Nat, k ≤ vs.length ∧ g = vs.length - k ∧ i = .int .i64 k ∧ OwnN w.heap.size wr out (y0 :: (vs.take k).flatMap PV.ls) ∧ Below w.heap.size w wr)
    case atStart => exact ⟨0, by omega, rfl, rfl, by simpa using O1.out, B0.out⟩
    case round =>
      clear O1 B0
      obtain ⟨k, hk, rfl, rfl, ho, hb⟩ := hrel
      have HO := Lib.hid ho
      have HB := Lib.hid hb
      have hs := hb.size
      clear ho hb
      by_cases hlt : k < vs.length
      · obtain ⟨p, hx⟩ : ∃ x, vs[k]? = some x := ⟨_, List.getElem?_eq_getElem hlt⟩
        obtain ⟨b, off, rfl, hbl, hc⟩ := (H.out.kept HB.out).cells eP_len hx
        have c0 := hc 0 (.slice p.a p.n p.c) (by omega) rfl
        simp only [Nat.mul_one, Nat.add_zero] at c0
        have hN := (HP.out p (List.mem_of_getElem? hx)).kept HB.out
        obtain ⟨hn, rd⟩ := NdsV.rd hN
        have hmx : (y0 :: (vs.take k).flatMap PV.ls).length + p.ls.length ≤ 1000000000 := by
          have := take_le2 PV.ls vs hx
          rw [List.length_cons]
          omega
        have HX := Lib.hid hx
        have RD := Lib.hid rd
        have HN := Lib.hid hn
        clear hx hc hN rd hn
        go_wp2_with (at_builtin; go_must (refine wpList_app elem_nd rfl rfl rfl rfl HO.out RD.out HN.out eN_len eN_one hmx (by omega) hs ?_); intro v2 w2 o2 g2)
        go_roundg (vs.length - (k + 1))
        case measure => omega
        case rel => exact ⟨k + 1, by omega, rfl, by go_num, by rw [take_flat _ HX.out, ← List.cons_append]; exact o2, Below.grow HB.out HO.out g2 (Nat.le_refl _) hs⟩
      · obtain rfl : k = vs.length := by omega
        go_wp2_with fail
        go_ret
        have ho := HO.out
        rw [List.take_length] at ho
        refine ⟨_, rfl, ⟨_, ?_, ho.mono hB, ?_⟩, HB.out⟩
        · rw [← HY.out]; rfl
        · intro z hz
          rcases List.mem_cons.1 hz with rfl | hz
          · rw [← HY.out]; exact Own.nil _ _ _ _ _
          · obtain ⟨p, hp, hz⟩ := List.mem_flatMap.1 hz
            exact ((HP.out p hp).2 z hz).below HB.out (Nat.le_refl _)
end Go.Proofs.YtooockbfagkknaaGreatDoor.syn
