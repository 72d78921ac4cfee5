/- spoorkeep.CopyNodes: nodes in new memory. -/
import Derived.Test.YtooockbfagkknaaGreatDoorParse
import Derived.Test.YtooockbfagkknaaGreatDoorNrd
namespace Go.Proofs.YtooockbfagkknaaGreatDoor.syn
open Go.RowKit Go.Proofs.YtooockbfagkknaaGreatDoor.sl Go.Proofs.YtooockbfagkknaaGreatDoor.cls
theorem ncell_set {w : World} {P : Nat} {y : NdV} {a : Option Addr} {n c : Nat} (h : w.heap[P]? = some (ncell y)) : (w.setCell ⟨P, 1, none⟩ (.slice a n c)).heap[P]? = some (ncell ⟨y.x, a, n, c⟩) := by
  rw [obj_set h]
  rfl
theorem set_below {B : Nat} {a w : World} {P o : Nat} {u : Value} (h : Below B a w) (hP : B ≤ P) : Below B a (w.setCell ⟨P, o, none⟩ u) := h.setCell hP _
/-- A slice of ranges does not lie in a block of nodes. -/
theorem rg_apart {B : Nat} {w : World} {v : Value} {l : List Rg} (h : OwnR B w v l) {P : Nat} {cs : Array Value} (hP : w.heap[P]? = some (.cells cs 35)) : v.ownBlock ≠ some P := own_ne h hP (by decide)
theorem NdsV.snoc {B : Nat} {w w' : World} {v v' : Value} {os : List NdV} {y : NdV} (h : NdsV B w v os) (hy : OwnR B w y.v y.x.r) (o' : OwnN B w' v' (os ++ [y])) (g : w.grownBy w' v.ownBlock) : NdsV B w' v' (os ++ [y]) := by
  refine ⟨o', fun z hz => ?_⟩
  have hz' : OwnR B w z.v z.x.r := by
    rcases List.mem_append.1 hz with hz | hz
    · exact h.2 z hz
    · obtain rfl : z = y := by simpa using hz
      exact hy
  refine Own.blk hz' fun b hb => g.block b (hz'.lt b hb).2 fun e => ?_
  rcases h.1.2 with ⟨hv, _⟩ | ⟨P, cap, cur, hv, _, hP, _⟩
  · rw [hv] at e
    cases e
  · rw [hv] at e
    have e2 : P = b := by simpa [Value.ownBlock, eq_comm] using e
    subst e2
    exact rg_apart hz' hP hb
theorem copies {ls os : List NdV} {k : Nat} {y : NdV} (hy : ls[k]? = some y) (ho : os.map NdV.x = (ls.take k).map NdV.x) (y2 : NdV) (h2 : y2.x = y.x) : (os ++ [y2]).map NdV.x = (ls.take (k + 1)).map NdV.x := by
  rw [List.take_add_one, hy]
  simp [ho, h2]
theorem copied_ranges {B : Nat} {w : World} {v : Value} {l : List Rg} (h : OwnR B w v ([] ++ l)) : ∃ a c, v = .slice a l.length c ∧ OwnR B w (.slice a l.length c) l := by
  obtain ⟨a, c, e, _⟩ := h.rd
  subst e
  exact ⟨a, c, rfl, h⟩
theorem copied_kept {w w3 : World} {o o2 : Obj} {n : Nat} (h : (w.alloc o).heap[w.heap.size]? = some o) (g : ((w.alloc o).alloc o2).grownBy w3 (Value.slice (some ⟨w.heap.size + 1, 0, none⟩) n n).ownBlock) : w3.heap[w.heap.size]? = some o := by
  rw [g.block w.heap.size (by simp; omega) (by simp [Value.ownBlock])]
  exact (((Below.refl _ _).alloc (Nat.le_refl _) o2).block w.heap.size (by simp)).trans h
theorem copied_grow {w w3 : World} {o o2 : Obj} {n : Nat} (g : ((w.alloc o).alloc o2).grownBy w3 (Value.slice (some ⟨w.heap.size + 1, 0, none⟩) n n).ownBlock) : Below w.heap.size w w3 :=
  (((Below.refl w.heap.size w).alloc (Nat.le_refl _) o).alloc (by simp) o2).grown g (by simp; omega) fun k hk => by
    have : w.heap.size + 1 = k := by simpa [Value.ownBlock, eq_comm] using hk
    omega
set_option maxHeartbeats 8000000 in
set_option maxRecDepth 100000 in
theorem copyNodesC (la : Option Addr) (lc : Nat) (ls : List NdV) (w : World) (N : Nrd w la lc ls) (hlen : ls.length < 1000000000) : Calls Tryz.prog 9 #[.slice la ls.length lc] w fun e w' => ∃ v, e = .returned v ∧ Nds w.heap.size w' v (ls.map NdV.x) ∧ Below w.heap.size w w' := by
  have hm := N.rd.max
  have hle := N.rd.le
  unfold maxLen at hm
  have HN := Lib.hid N
  clear N
  go_enter Tryz.func9, Tryz.ntmps9
  go_wp2_with fail
  go_loopg [3, 4] ls.length (fun gh v i wr => ∃ (k : Nat) (os : List NdV), k ≤ ls.length ∧ gh = ls.length - k ∧ i = .int .i64 k ∧ os.map NdV.x = (ls.take k).map NdV.x ∧ os.length ≤ k ∧ NdsV w.heap.size wr v os ∧ Below w.heap.size w wr)
  case atStart => exact ⟨0, [], Nat.zero_le _, rfl, rfl, rfl, Nat.le_refl _, ⟨Own.nil _ _ _ _ _, by simp⟩, Below.refl _ _⟩
  case round =>
    obtain ⟨k, os, hk, rfl, rfl, hos, hol, hnv, hb⟩ := hrel
    have HO := Lib.hid hos
    have NV := Lib.hid hnv
    have BB := Lib.hid hb
    have hsz := hb.size
    clear hos hnv hb
    by_cases hlt : k < ls.length
    · obtain ⟨y, hy⟩ : ∃ y, ls[k]? = some y := ⟨_, List.getElem?_eq_getElem hlt⟩
      have NR := HN.out.kept BB.out
      obtain ⟨bb, off, rfl, hbl, hc⟩ := NR.rd.cells eN_len hy
      have q0 := hc 0 (.int .i64 y.x.op) (by omega) rfl
      have q1 := hc 1 (.slice y.a y.n y.c) (by omega) rfl
      have q2 := hc 2 (.int .i64 y.x.mn) (by omega) rfl
      have q3 := hc 3 (.int .i64 y.x.mx) (by omega) rfl
      have q4 := hc 4 (.bool y.x.lz) (by omega) rfl
      have q5 := hc 5 (.int .i64 y.x.cap) (by omega) rfl
      have q6 := hc 6 (.int .i64 y.x.kids) (by omega) rfl
      simp only [Nat.add_zero] at q0
      simp only [← Nat.add_assoc] at q1 q2 q3 q4 q5 q6
      obtain ⟨hyn, hyr, hyl, -⟩ := NR.each y (List.mem_of_getElem? hy)
      have HY := Lib.hid hy
      have i1 : (k : Int) < (ls.length : Int) := by omega
      clear hy hc NR
      have OX := Lib.hid (heap_alloc_new wr (ncell y))
      have BX := Lib.hid ((Below.refl wr.heap.size wr).alloc (Nat.le_refl _) (ncell y))
      have hsx : (wr.alloc (ncell y)).heap.size = wr.heap.size + 1 := Array.size_push ..
      have k1 : (wr.alloc (ncell y)).cell? ⟨bb, off + k * 7 + 1, none⟩ = some (.slice y.a y.n y.c) := (BX.out.cell (cell_lt q1)).trans q1
      have OE : OwnR w.heap.size ((wr.alloc (ncell y)).alloc (.cells #[] 58)) (.slice (some ⟨wr.heap.size + 1, 0, none⟩) 0 0) [] := by
        have := own_lit (enc := er) (k := 2) (E := 58) (B := w.heap.size) (wr.alloc (ncell y)) #[] [] 0 rfl er_len rfl (by omega) (by omega)
        rwa [hsx] at this
      have RX := Lib.hid (Rd.kept (Rd.kept hyr BX.out) ((Below.refl _ _).alloc (Nat.le_refl _) (.cells #[] 58)))
      have HYN := Lib.hid hyn
      have hmx : ([] : List Rg).length + y.x.r.length ≤ 1000000000 := by simp; omega
      have hs2 : w.heap.size ≤ ((wr.alloc (ncell y)).alloc (.cells #[] 58)).heap.size := by simp; omega
      have OEH := Lib.hid OE
      clear hyr hyn hyl OE
      go_upto_region 7 with (at_builtin; go_must (refine wpList_app elem_rg rfl rfl rfl rfl OEH.out RX.out HYN.out er_len er_one hmx (by omega) hs2 ?_; intro v2 w3 o2 g2; obtain ⟨a2, c2, hv2, o2r⟩ := copied_ranges o2; subst hv2; have OX3 := copied_kept OX.out g2; have f3 := cell_of_obj (o := 1) (u := .slice y.a y.n y.c) OX3 rfl; have f4 := frozen_of_obj (o := 1) OX3))
      have O3 := Lib.hid OX3
      have O2 := Lib.hid o2r
      have B3 : Hid (Below wr.heap.size wr w3) := Lib.hid (copied_grow g2)
      have g4 := ncell_set (a := a2) (n := y.x.r.length) (c := c2) OX3
      have B4 : Hid (Below wr.heap.size wr (w3.setCell ⟨wr.heap.size, 1, none⟩ (.slice a2 y.x.r.length c2))) := Lib.hid (set_below B3.out (Nat.le_refl _))
      have O4 : Hid (OwnR w.heap.size (w3.setCell ⟨wr.heap.size, 1, none⟩ (.slice a2 y.x.r.length c2)) (.slice a2 y.x.r.length c2) y.x.r) := Lib.hid (Own.blk o2r fun g hg => (Kp.set wr.heap.size 1 w3 _).block g (o2r.lt g hg).2 (by intro e; cases e; exact rg_apart o2r OX3 hg))
      clear f3 f4 OX3 o2r g2 o2 hs2 hmx k1 q0 q1 q2 q3 q4 q5 q6 OX BX hsx RX HYN OEH O3 O2
      generalize w3.setCell ⟨wr.heap.size, 1, none⟩ (.slice a2 y.x.r.length c2) = w4 at g4 B4 O4 ⊢
      have NV4 := Lib.hid (NV.out.kept B4.out)
      have B5 := Lib.hid (BB.out.trans (B4.out.mono hsz))
      have hs4 := B5.out.size
      have CP := Lib.hid (copies HY.out HO.out ⟨y.x, a2, y.x.r.length, c2⟩ rfl)
      have hacc : os.length < 1000000000 := by omega
      clear NV BB B4 HY HO
      generalize wr.heap.size = Nb at g4 ⊢
      generalize hy2 : (⟨y.x, a2, y.x.r.length, c2⟩ : NdV) = y2 at g4 CP
      have O5 : Hid (OwnR w.heap.size w4 y2.v y2.x.r) := Lib.hid (by rw [← hy2]; exact O4.out)
      clear hy2 O4
      have d0 := cell_of_obj (o := 0) (u := .int .i64 y2.x.op) g4 rfl
      have d1 := cell_of_obj (o := 1) (u := .slice y2.a y2.n y2.c) g4 rfl
      have d2 := cell_of_obj (o := 2) (u := .int .i64 y2.x.mn) g4 rfl
      have d3 := cell_of_obj (o := 3) (u := .int .i64 y2.x.mx) g4 rfl
      have d4 := cell_of_obj (o := 4) (u := .bool y2.x.lz) g4 rfl
      have d5 := cell_of_obj (o := 5) (u := .int .i64 y2.x.cap) g4 rfl
      have d6 := cell_of_obj (o := 6) (u := .int .i64 y2.x.kids) g4 rfl
      clear g4
      have AB : Hid (Below w4.heap.size w4 (w4.alloc (ncell y2))) := Lib.hid ((Below.refl _ _).alloc (Nat.le_refl _) _)
      go_wp2_with (at_builtin; go_must (refine wpList_app1 elem_nd rfl rfl rfl rfl (by simp) NV4.out.1 y2 rfl eN_len eN_one hacc (by omega) hs4 ?_; intro v3 w5 o3 g3; have N5 := Lib.hid (NdsV.snoc (NV4.out.kept AB.out) (O5.out.alloc _) o3 g3); have B6 := Lib.hid (grow_below B5.out NV4.out.1 g3 (Nat.le_refl _) hs4); clear o3 g3))
      go_roundg (ls.length - (k + 1))
      case measure => omega
      case rel => exact ⟨k + 1, os ++ [y2], by omega, rfl, by go_num, CP.out, by simp; omega, N5.out, B6.out⟩
    · obtain rfl : k = ls.length := by omega
      go_wp2_with fail
      go_ret
      have ho := HO.out
      rw [List.take_length] at ho
      exact ⟨_, rfl, ⟨os, ho, NV.out⟩, BB.out⟩
end Go.Proofs.YtooockbfagkknaaGreatDoor.syn
