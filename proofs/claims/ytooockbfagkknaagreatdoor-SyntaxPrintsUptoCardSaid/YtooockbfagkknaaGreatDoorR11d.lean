/- spoorref10: walk, End, Right. -/
import Derived.Test.YtooockbfagkknaaGreatDoorR11
import Derived.Test.YtooockbfagkknaaGreatDoorPln
import Derived.Test.YtooockbfagkknaaGreatDoorNrd
import Derived.Deep.RegionHeld3
namespace Go.Proofs.YtooockbfagkknaaGreatDoor.syn
open Go.RowKit Go.Proofs.YtooockbfagkknaaGreatDoor.sl Go.Proofs.YtooockbfagkknaaGreatDoor.cls
def bareB (x : Nd) (k mn mx : Int) (lz : Bool) (cap : Int) (rn : Nat) : Bool := decide (x.kids = k) && decide (x.mn = mn) && decide (x.mx = mx) && decide (x.lz = lz) && decide (x.cap = cap) && decide (x.r.length = rn)
theorem shape_leaf {x : Nd} (h : x.op = 1 ∨ x.op = 7 ∨ x.op = 8) : shapeR x = if bareB x 0 0 0 false 0 0 then some 0 else none := by
  unfold shapeR
  simp only
  rw [if_pos h]
  rfl
theorem shape_cls {x : Nd} (h : x.op = 2) (hr : x.r = makeF x.r) : shapeR x = if bareB x 0 0 0 false 0 x.r.length then some 0 else none := by
  unfold shapeR
  simp only
  rw [if_neg (by omega), if_pos h, if_pos hr]
  simp [bareB]
theorem shape_clsN {x : Nd} (h : x.op = 2) (hr : ¬ x.r = makeF x.r) : shapeR x = none := by
  unfold shapeR
  simp only
  rw [if_neg (by omega), if_pos h, if_neg hr]
theorem shape_many {x : Nd} (h : x.op = 3 ∨ x.op = 4) (hk : ¬ x.kids < 2) : shapeR x = if bareB x x.kids 0 0 false 0 0 then some x.kids else none := by
  unfold shapeR
  simp only
  rw [if_neg (by omega), if_neg (by omega), if_pos h, if_neg hk]
  simp [bareB]
theorem shape_manyN {x : Nd} (h : x.op = 3 ∨ x.op = 4) (hk : x.kids < 2) : shapeR x = none := by
  unfold shapeR
  simp only
  rw [if_neg (by omega), if_neg (by omega), if_pos h, if_pos hk]
def badRep (x : Nd) : Prop := x.mn < 0 ∨ 30 < x.mn ∨ 30 < x.mx ∨ x.mx < -1 ∨ (0 ≤ x.mx ∧ x.mx < x.mn)
instance (x : Nd) : Decidable (badRep x) := by unfold badRep; infer_instance
theorem shape_rep {x : Nd} (h : x.op = 5) (hk : ¬ badRep x) : shapeR x = if bareB x 1 x.mn x.mx x.lz 0 0 then some 1 else none := by
  unfold shapeR
  simp only
  rw [if_neg (by omega), if_neg (by omega), if_neg (by omega), if_pos h]
  unfold badRep at hk
  rw [if_neg hk]
  simp [bareB]
theorem shape_repN {x : Nd} (h : x.op = 5) (hk : badRep x) : shapeR x = none := by
  unfold shapeR
  simp only
  rw [if_neg (by omega), if_neg (by omega), if_neg (by omega), if_pos h]
  unfold badRep at hk
  rw [if_pos hk]
theorem shape_grp {x : Nd} (h : x.op = 6) (hk : ¬ (x.cap < 1 ∨ 4 < x.cap)) : shapeR x = if bareB x 1 0 0 false x.cap 0 then some 1 else none := by
  unfold shapeR
  simp only
  rw [if_neg (by omega), if_neg (by omega), if_neg (by omega), if_neg (by omega), if_pos h, if_neg hk]
  simp [bareB]
theorem shape_grpN {x : Nd} (h : x.op = 6) (hk : x.cap < 1 ∨ 4 < x.cap) : shapeR x = none := by
  unfold shapeR
  simp only
  rw [if_neg (by omega), if_neg (by omega), if_neg (by omega), if_neg (by omega), if_pos h, if_pos hk]
theorem shape_else {x : Nd} (h1 : x.op ≠ 1) (h2 : x.op ≠ 2) (h3 : x.op ≠ 3) (h4 : x.op ≠ 4) (h5 : x.op ≠ 5) (h6 : x.op ≠ 6) (h7 : x.op ≠ 7) (h8 : x.op ≠ 8) : shapeR x = none := by
  unfold shapeR
  simp only
  rw [if_neg (by omega), if_neg (by omega), if_neg (by omega), if_neg (by omega), if_neg (by omega)]
/-- Where a node ends, as the reference tells it. -/
def wEnd : Option Nat → Int
  | none => -1
  | some b => b
theorem bare_1 {x : Nd} {k mn mx : Int} {lz : Bool} {cap : Int} {rn : Nat} (h : x.kids ≠ k) : (!bareB x k mn mx lz cap rn) = true := by simp [bareB, h]
theorem bare_2 {x : Nd} {k mn mx : Int} {lz : Bool} {cap : Int} {rn : Nat} (h : x.mn ≠ mn) : (!bareB x k mn mx lz cap rn) = true := by simp [bareB, h]
theorem bare_3 {x : Nd} {k mn mx : Int} {lz : Bool} {cap : Int} {rn : Nat} (h : x.mx ≠ mx) : (!bareB x k mn mx lz cap rn) = true := by simp [bareB, h]
theorem bare_4 {x : Nd} {k mn mx : Int} {lz : Bool} {cap : Int} {rn : Nat} (h : x.lz ≠ lz) : (!bareB x k mn mx lz cap rn) = true := by simp [bareB, h]
theorem bare_5 {x : Nd} {k mn mx : Int} {lz : Bool} {cap : Int} {rn : Nat} (h : x.cap ≠ cap) : (!bareB x k mn mx lz cap rn) = true := by simp [bareB, h]
theorem bare_6 {x : Nd} {k mn mx : Int} {lz : Bool} {cap : Int} {rn : Nat} (h : x.r.length ≠ rn) : (!bareB x k mn mx lz cap rn) = true := by simp [bareB, h]
theorem bare_y {x : Nd} {k mn mx : Int} {lz : Bool} {cap : Int} {rn : Nat} (h1 : x.kids = k) (h2 : x.mn = mn) (h3 : x.mx = mx) (h4 : x.lz = lz) (h5 : x.cap = cap) (h6 : x.r.length = rn) : (!bareB x k mn mx lz cap rn) = false := by simp [bareB, h1, h2, h3, h4, h5, h6]
def WalkC (W : World) (la : Option Addr) (lc : Nat) (ls : List NdV) (n : Nat) : Prop := ∀ (a dp : Nat) (w : World), dp + n = 241 → a ≤ 1000000 → Below W.heap.size W w →
  Calls Tryz.prog 37 #[.slice la ls.length lc, .int .i64 a, .int .i64 dp] w fun e w' => e = .returned (.int .i64 (wEnd (rWalk (ls.map NdV.x) n a))) ∧ Below w.heap.size w w'
def bcell (y : NdV) (rb : Value) (mn mx : Int) (lz : Bool) (cap : Int) : Obj := .cells #[.int .i64 y.x.op, rb, .int .i64 mn, .int .i64 mx, .bool lz, .int .i64 cap, .int .i64 y.x.kids] 35
section
variable {W : World} {la : Option Addr} {lc : Nat} {ls : List NdV}
set_option maxHeartbeats 8000000 in
set_option maxRecDepth 100000 in
theorem walkRC (N : Nrd W la lc ls) (hlen : ls.length ≤ 480) {n : Nat} (KC : WalkC W la lc ls n) : WalkC W la lc ls (n + 1) := by
  intro a dp w hdp ha hb
  suffices key : ∀ res, rWalk (ls.map NdV.x) (n + 1) a = res → Calls Tryz.prog 37 #[.slice la ls.length lc, .int .i64 a, .int .i64 dp] w fun e w' => e = .returned (.int .i64 (wEnd res)) ∧ Below w.heap.size w w' from key _ rfl
  intro res hres
  have i1 : ¬ (240 : Int) < (dp : Int) := by omega
  by_cases hal : ls.length ≤ a
  · have i2 : (ls.length : Int) ≤ (a : Int) := by omega
    rw [rWalk, if_pos (by simpa using hal)] at hres
    have HR := Lib.hid hres
    have HWW : Hid (W.heap.size ≤ w.heap.size) := Lib.hid hb.size
    clear hres
    go_enter Tryz.func37, Tryz.ntmps37
    go_wp2_with fail
    go_ret
    exact ⟨by rw [← HR.out]; rfl, Below.refl _ _⟩
  · have hlt : a < ls.length := by omega
    have i2 : (a : Int) < (ls.length : Int) := by omega
    obtain ⟨y, hy⟩ : ∃ y, ls[a]? = some y := ⟨_, List.getElem?_eq_getElem hlt⟩
    have hgd : (ls.map NdV.x).getD a (nd 0) = y.x := by simp [List.getD_eq_getElem?_getD, hy]
    rw [rWalk, if_neg (by simpa using hal), hgd] at hres
    have YE := Lib.hid (N.each y (List.mem_of_getElem? hy))
    obtain ⟨bb, off, hla, hbl, hc⟩ := (N.kept hb).rd.cells eN_len hy
    have q0 := hc 0 (.int .i64 y.x.op) (by omega) rfl
    have q1 := hc 1 (.slice y.a y.n y.c) (by omega) rfl
    have q2 := hc 2 (.int .i64 y.x.mn) (by omega) rfl
    have q3 := hc 3 (.int .i64 y.x.mx) (by omega) rfl
    have q4 := hc 4 (.bool y.x.lz) (by omega) rfl
    have q5 := hc 5 (.int .i64 y.x.cap) (by omega) rfl
    have q6 := hc 6 (.int .i64 y.x.kids) (by omega) rfl
    simp only [Nat.add_zero] at q0
    simp only [← Nat.add_assoc] at q1 q2 q3 q4 q5 q6
    have HR := Lib.hid hres
    have HWW : Hid (W.heap.size ≤ w.heap.size) := Lib.hid hb.size
    have HBW := Lib.hid hb
    have B0 := Lib.hid ((Below.refl w.heap.size w).alloc (Nat.le_refl _) (ncell y))
    have B1 := Lib.hid (hb.alloc hb.size (ncell y))
    have NB := Lib.hid (heap_alloc_new w (ncell y))
    clear hres hb hc hy hgd hal
    subst hla
    have hkb := YE.out.2.2.2
    go_enter Tryz.func37, Tryz.ntmps37
    go_upto_region 4 with fail
    change Code.wp _ _ _ _ (w.alloc (ncell y))
    generalize hN1 : w.heap.size = N1 at NB ⊢
    have HN1 := Lib.hid hN1
    clear hN1 q0 q1 q2 q3 q4 q5 q6
    generalize w.alloc (ncell y) = w1 at B0 B1 NB ⊢
    have d0 := cell_of_obj (o := 0) (u := .int .i64 y.x.op) NB.out rfl
    have d6 := cell_of_obj (o := 6) (u := .int .i64 y.x.kids) NB.out rfl
    have hN1l : N1 < w1.heap.size := heap_lt NB.out
    go_upto_region 5 with fail
    change Code.wp _ _ _ _ (w1.alloc (bcell y (.slice none 0 0) 0 0 false 0))
    have C0 := Lib.hid (B0.out.alloc B0.out.size (bcell y (.slice none 0 0) 0 0 false 0))
    have C1 := Lib.hid (B1.out.alloc B1.out.size (bcell y (.slice none 0 0) 0 0 false 0))
    have NA := Lib.hid ((Below.heap_alloc w1 (bcell y (.slice none 0 0) 0 0 false 0) N1 hN1l).trans NB.out)
    have NC := Lib.hid (heap_alloc_new w1 (bcell y (.slice none 0 0) 0 0 false 0))
    have hNN : ¬ N1 = w1.heap.size := by omega
    have hN2w : w.heap.size ≤ w1.heap.size := B0.out.size
    clear d0 d6 B0 B1 NB
    generalize hN2 : w1.heap.size = N2 at NC hNN hN1l hN2w ⊢
    clear hN2
    generalize w1.alloc (bcell y (.slice none 0 0) 0 0 false 0) = w2 at C0 C1 NA NC ⊢
    have hNN' : ¬ N2 = N1 := fun e => hNN e.symm
    have d0 := cell_of_obj (o := 0) (u := .int .i64 y.x.op) NA.out rfl
    have d1 := cell_of_obj (o := 1) (u := .slice y.a y.n y.c) NA.out rfl
    have d2 := cell_of_obj (o := 2) (u := .int .i64 y.x.mn) NA.out rfl
    have d3 := cell_of_obj (o := 3) (u := .int .i64 y.x.mx) NA.out rfl
    have d4 := cell_of_obj (o := 4) (u := .bool y.x.lz) NA.out rfl
    have d5 := cell_of_obj (o := 5) (u := .int .i64 y.x.cap) NA.out rfl
    have d6 := cell_of_obj (o := 6) (u := .int .i64 y.x.kids) NA.out rfl
    go_upto_block 0 with fail
    go_cut [9] (fun kv wx => ∃ (k0 mnb mxb capb : Int) (lzb : Bool) (rba : Option Addr) (rn rbc : Nat), kv = .int .i64 k0 ∧ 0 ≤ k0 ∧ k0 ≤ 9223372036854775807 ∧ wx.heap[N1]? = some (ncell y) ∧ wx.heap[N2]? = some (bcell y (.slice rba rn rbc) mnb mxb lzb capb) ∧ Below w.heap.size w wx ∧ shapeR y.x = if bareB y.x k0 mnb mxb lzb capb rn then some k0 else none)
    case first =>
      have hWw : W.heap.size ≤ w.heap.size := HWW.out
      by_cases h1 : y.x.op = 1
      · have ho := h1
        clear h1
        have HO := Lib.hid ho
        have eo : (y.x.op == 1) = true := by simpa using ho
        clear ho
        go_wp2_with fail
        go_meet
        exact ⟨0, 0, 0, 0, false, none, 0, 0, rfl, by omega, by omega, NA.out, NC.out, C0.out, shape_leaf (by have := HO.out; omega)⟩
      · have n1 : (y.x.op == 1) = false := by simpa using h1
        by_cases h7 : y.x.op = 7
        · have ho := h7
          clear h7
          have HO := Lib.hid ho
          have eo : (y.x.op == 7) = true := by simpa using ho
          clear ho
          go_wp2_with fail
          go_meet
          exact ⟨0, 0, 0, 0, false, none, 0, 0, rfl, by omega, by omega, NA.out, NC.out, C0.out, shape_leaf (by have := HO.out; omega)⟩
        · have n7 : (y.x.op == 7) = false := by simpa using h7
          by_cases h8 : y.x.op = 8
          · have ho := h8
            clear h8
            have HO := Lib.hid ho
            have eo : (y.x.op == 8) = true := by simpa using ho
            clear ho
            go_wp2_with fail
            go_meet
            exact ⟨0, 0, 0, 0, false, none, 0, 0, rfl, by omega, by omega, NA.out, NC.out, C0.out, shape_leaf (by have := HO.out; omega)⟩
          · have n8 : (y.x.op == 8) = false := by simpa using h8
            by_cases h2 : y.x.op = 2
            · have ho := h2
              clear h2
              have HO := Lib.hid ho
              have eo : (y.x.op == 2) = true := by simpa using ho
              clear ho
              rw [YE.out.1] at d1
              have z1 := frozen_of_obj (o := 1) NC.out
              have t1 := cell_of_obj (o := 1) (u := .slice none 0 0) NC.out rfl
              have nc : (w2.setCell ⟨N2, 1, none⟩ (.slice y.a y.x.r.length y.c)).heap[N2]? = some (bcell y (.slice y.a y.x.r.length y.c) 0 0 false 0) := by rw [obj_set NC.out]; rfl
              have na : (w2.setCell ⟨N2, 1, none⟩ (.slice y.a y.x.r.length y.c)).heap[N1]? = some (ncell y) := (Below.heap_setCell w2 ⟨N2, 1, none⟩ _ N1 (by simpa using hNN)).trans NA.out
              have C0' := Lib.hid (C0.out.setCell (p := ⟨N2, 1, none⟩) hN2w (.slice y.a y.x.r.length y.c))
              have C1' := Lib.hid (C1.out.setCell (p := ⟨N2, 1, none⟩) (Nat.le_trans hWw hN2w) (.slice y.a y.x.r.length y.c))
              have NC' := Lib.hid nc
              have NA' := Lib.hid na
              go_upto_region 13 with fail
              clear C0 C1 NC NA d0 d1 d2 d3 d4 d5 d6 z1 t1 nc na
              generalize w2.setCell ⟨N2, 1, none⟩ (.slice y.a y.x.r.length y.c) = w3 at C0' C1' NC' NA' ⊢
              have d1 : w3.cell? ⟨N1, 1, none⟩ = some (.slice y.a y.x.r.length y.c) := by rw [← YE.out.1]; exact cell_of_obj (o := 1) (u := .slice y.a y.n y.c) NA'.out rfl
              have RC := Lib.hid (rightR7 y.a y.x.r y.c w3 (YE.out.2.1.kept C1'.out) YE.out.2.2.1)
              by_cases hr : y.x.r = makeF y.x.r
              · rw [decide_eq_true hr] at RC
                have HRr := Lib.hid hr
                clear hr
                go_wp2_with fail
                refine RC.out.mono ?_
                rintro e w4 ⟨rfl, b4⟩
                have C4 := Lib.hid (C0'.out.trans (b4.mono C0'.out.size))
                have NA4 := Lib.hid ((b4.block N1 (heap_lt NA'.out)).trans NA'.out)
                have NC4 := Lib.hid ((b4.block N2 (heap_lt NC'.out)).trans NC'.out)
                clear b4
                go_wp2_with fail
                go_meet
                exact ⟨0, 0, 0, 0, false, y.a, _, y.c, rfl, by omega, by omega, NA4.out, NC4.out, C4.out, shape_cls HO.out HRr.out⟩
              · rw [decide_eq_false hr] at RC
                have HRr := Lib.hid hr
                clear hr
                go_wp2_with fail
                refine RC.out.mono ?_
                rintro e w4 ⟨rfl, b4⟩
                go_wp2_with fail
                go_ret
                exact ⟨by rw [← HR.out, shape_clsN HO.out HRr.out]; rfl, C0'.out.trans (b4.mono C0'.out.size)⟩
            · have n2 : (y.x.op == 2) = false := by simpa using h2
              by_cases h3 : y.x.op = 3
              · have ho := h3
                clear h3
                have HO := Lib.hid ho
                have eo : (y.x.op == 3) = true := by simpa using ho
                clear ho
                by_cases hk : y.x.kids < 2
                · have HK := Lib.hid hk
                  go_wp2_with fail
                  go_ret
                  exact ⟨by rw [← HR.out, shape_manyN (by have := HO.out; omega) HK.out]; rfl, C0.out⟩
                · have HK := Lib.hid hk
                  have hk2 : 2 ≤ y.x.kids := by omega
                  go_wp2_with fail
                  go_meet
                  exact ⟨y.x.kids, 0, 0, 0, false, none, 0, 0, rfl, by omega, by omega, NA.out, NC.out, C0.out, shape_many (by have := HO.out; omega) (by omega)⟩
              · have n3 : (y.x.op == 3) = false := by simpa using h3
                by_cases h4 : y.x.op = 4
                · have ho := h4
                  clear h4
                  have HO := Lib.hid ho
                  have eo : (y.x.op == 4) = true := by simpa using ho
                  clear ho
                  by_cases hk : y.x.kids < 2
                  · have HK := Lib.hid hk
                    go_wp2_with fail
                    go_ret
                    exact ⟨by rw [← HR.out, shape_manyN (by have := HO.out; omega) HK.out]; rfl, C0.out⟩
                  · have HK := Lib.hid hk
                    have hk2 : 2 ≤ y.x.kids := by omega
                    go_wp2_with fail
                    go_meet
                    exact ⟨y.x.kids, 0, 0, 0, false, none, 0, 0, rfl, by omega, by omega, NA.out, NC.out, C0.out, shape_many (by have := HO.out; omega) (by omega)⟩
                · have n4 : (y.x.op == 4) = false := by simpa using h4
                  by_cases h5 : y.x.op = 5
                  · have ho := h5
                    clear h5
                    have HO := Lib.hid ho
                    have eo : (y.x.op == 5) = true := by simpa using ho
                    clear ho
                    have z2 := frozen_of_obj (o := 2) NC.out
                    have z3 := frozen_of_obj (o := 3) NC.out
                    have z4 := frozen_of_obj (o := 4) NC.out
                    have t2 := cell_of_obj (o := 2) (u := .int .i64 0) NC.out rfl
                    have t3 := cell_of_obj (o := 3) (u := .int .i64 0) NC.out rfl
                    have t4 := cell_of_obj (o := 4) (u := .bool false) NC.out rfl
                    go_upto_region 22 with fail
                    go_cut [] (fun wx => wx.heap[N1]? = some (ncell y) ∧ wx.heap[N2]? = some (bcell y (.slice none 0 0) y.x.mn y.x.mx y.x.lz 0) ∧ Below w.heap.size w wx)
                    case first =>
                      go_region_held3 (fun w' => w'.cell? ⟨N1, 2, none⟩ = some (.int .i64 y.x.mn) ∧ w'.cell? ⟨N1, 3, none⟩ = some (.int .i64 y.x.mx) ∧ w'.cell? ⟨N1, 4, none⟩ = some (.bool y.x.lz)) (first | exact ⟨d2, d3, d4⟩ | go_keep) (first | fail)
                      all_goals (go_wp2_with fail)
                      all_goals go_meet
                      all_goals exact ⟨(Below.heap_setCell _ ⟨N2, 4, none⟩ _ N1 (by simpa using hNN)).trans ((Below.heap_setCell _ ⟨N2, 3, none⟩ _ N1 (by simpa using hNN)).trans ((Below.heap_setCell _ ⟨N2, 2, none⟩ _ N1 (by simpa using hNN)).trans NA.out)), by show (((w2.setCell ⟨N2, 2, none⟩ (.int .i64 y.x.mn)).setCell ⟨N2, 3, none⟩ (.int .i64 y.x.mx)).setCell ⟨N2, 4, none⟩ (.bool y.x.lz)).heap[N2]? = _; rw [obj_set (obj_set (obj_set NC.out))]; rfl, below_drew (((C0.out.setCell (p := ⟨N2, 2, none⟩) hN2w _).setCell (p := ⟨N2, 3, none⟩) hN2w _).setCell (p := ⟨N2, 4, none⟩) hN2w _)⟩
                    case rest =>
                      obtain ⟨na, nc, b⟩ := hcut
                      have NA3 := Lib.hid na
                      have NC3 := Lib.hid nc
                      have C3 := Lib.hid b
                      clear d0 d1 d2 d3 d4 d5 d6 z2 z3 z4 t2 t3 t4 na nc b C0 C1 NA NC
                      generalize wc = w3 at NA3 NC3 C3 ⊢
                      have d2 := cell_of_obj (o := 2) (u := .int .i64 y.x.mn) NA3.out rfl
                      have d3 := cell_of_obj (o := 3) (u := .int .i64 y.x.mx) NA3.out rfl
                      go_upto_region 23 with fail
                      go_cut [90] (fun bv wx => bv = .bool (decide (badRep y.x)) ∧ wx = w3)
                      case first =>
                        have DT : ∀ (h : badRep y.x), decide (badRep y.x) = true := fun h => decide_eq_true h
                        have DF : ∀ (h : ¬ badRep y.x), decide (badRep y.x) = false := fun h => decide_eq_false h
                        have DT := Lib.hid DT
                        have DF := Lib.hid DF
                        unfold badRep at DT DF
                        have DT2 : Hid ((y.x.mn < 0 ∨ 30 < y.x.mn ∨ 30 < y.x.mx ∨ y.x.mx < -1 ∨ (0 ≤ y.x.mx ∧ y.x.mx < y.x.mn)) → decide (badRep y.x) = true) := Lib.hid fun h => decide_eq_true h
                        have DF2 : Hid (¬ (y.x.mn < 0 ∨ 30 < y.x.mn ∨ 30 < y.x.mx ∨ y.x.mx < -1 ∨ (0 ≤ y.x.mx ∧ y.x.mx < y.x.mn)) → decide (badRep y.x) = false) := Lib.hid fun h => decide_eq_false h
                        clear DT DF
                        generalize y.x.mn = mn at d2 DT2 DF2
                        generalize y.x.mx = mx at d3 DT2 DF2
                        by_cases c1 : mn < 0
                        · go_wp2_with fail
                          go_meet
                          exact ⟨by rw [DT2.out (by omega)], rfl⟩
                        · by_cases c2 : 30 < mn
                          · go_wp2_with fail
                            go_meet
                            exact ⟨by rw [DT2.out (by omega)], rfl⟩
                          · by_cases c3 : 30 < mx
                            · go_wp2_with fail
                              go_meet
                              exact ⟨by rw [DT2.out (by omega)], rfl⟩
                            · by_cases c4 : mx < -1
                              · go_wp2_with fail
                                go_meet
                                exact ⟨by rw [DT2.out (by omega)], rfl⟩
                              · by_cases c5 : 0 ≤ mx
                                · by_cases c6 : mx < mn
                                  · go_wp2_with fail
                                    go_meet
                                    exact ⟨by rw [DT2.out (by omega)], rfl⟩
                                  · go_wp2_with fail
                                    go_meet
                                    exact ⟨by rw [DF2.out (by omega)], rfl⟩
                                · go_wp2_with fail
                                  go_meet
                                  exact ⟨by rw [DF2.out (by omega)], rfl⟩
                      case rest =>
                        obtain ⟨rfl, hwc⟩ := hcut
                        subst hwc
                        by_cases hbr : badRep y.x
                        · rw [decide_eq_true hbr]
                          have HBR := Lib.hid hbr
                          clear hbr
                          go_wp2_with fail
                          go_ret
                          exact ⟨by rw [← HR.out, shape_repN HO.out HBR.out]; rfl, C3.out⟩
                        · rw [decide_eq_false hbr]
                          have HBR := Lib.hid hbr
                          clear hbr
                          go_wp2_with fail
                          go_meet
                          exact ⟨1, y.x.mn, y.x.mx, 0, y.x.lz, none, 0, 0, rfl, by omega, by omega, NA3.out, NC3.out, C3.out, shape_rep HO.out HBR.out⟩
                  · have n5 : (y.x.op == 5) = false := by simpa using h5
                    by_cases h6 : y.x.op = 6
                    · have ho := h6
                      clear h6
                      have HO := Lib.hid ho
                      have eo : (y.x.op == 6) = true := by simpa using ho
                      clear ho
                      have z5 := frozen_of_obj (o := 5) NC.out
                      have t5 := cell_of_obj (o := 5) (u := .int .i64 0) NC.out rfl
                      have nc : (w2.setCell ⟨N2, 5, none⟩ (.int .i64 y.x.cap)).heap[N2]? = some (bcell y (.slice none 0 0) 0 0 false y.x.cap) := by rw [obj_set NC.out]; rfl
                      have na : (w2.setCell ⟨N2, 5, none⟩ (.int .i64 y.x.cap)).heap[N1]? = some (ncell y) := (Below.heap_setCell w2 ⟨N2, 5, none⟩ _ N1 (by simpa using hNN)).trans NA.out
                      have C3 := Lib.hid (C0.out.setCell (p := ⟨N2, 5, none⟩) hN2w (.int .i64 y.x.cap))
                      have NC3 := Lib.hid nc
                      have NA3 := Lib.hid na
                      go_upto_region 28 with fail
                      clear C0 C1 NC NA d0 d1 d2 d3 d4 d5 d6 z5 t5 nc na
                      generalize w2.setCell ⟨N2, 5, none⟩ (.int .i64 y.x.cap) = w3 at C3 NC3 NA3 ⊢
                      have d5 := cell_of_obj (o := 5) (u := .int .i64 y.x.cap) NA3.out rfl
                      by_cases c1 : y.x.cap < 1
                      · have HC1 := Lib.hid c1
                        go_wp2_with fail
                        go_ret
                        exact ⟨by rw [← HR.out, shape_grpN HO.out (.inl HC1.out)]; rfl, C3.out⟩
                      · by_cases c2 : 4 < y.x.cap
                        · have HC2 := Lib.hid c2
                          go_wp2_with fail
                          go_ret
                          exact ⟨by rw [← HR.out, shape_grpN HO.out (.inr HC2.out)]; rfl, C3.out⟩
                        · go_wp2_with fail
                          go_meet
                          exact ⟨1, 0, 0, y.x.cap, false, none, 0, 0, rfl, by omega, by omega, NA3.out, NC3.out, C3.out, shape_grp HO.out (by omega)⟩
                    · have n6 : (y.x.op == 6) = false := by simpa using h6
                      go_wp2_with fail
                      go_ret
                      exact ⟨by rw [← HR.out, shape_else h1 h2 h3 h4 h5 h6 h7 h8]; rfl, C0.out⟩
    case rest =>
      obtain ⟨k0, mnb, mxb, capb, lzb, rba, rn, rbc, rfl, hk0, hk1, na, nc, b, hsh⟩ := hcut
      have NA3 := Lib.hid na
      have C3 := Lib.hid b
      have HSH := Lib.hid hsh
      clear d0 d1 d2 d3 d4 d5 d6 C0 C1 NA NC
      generalize wc = w3 at NA3 C3 nc ⊢
      have d1 := cell_of_obj (o := 1) (u := .slice y.a y.n y.c) NA3.out rfl
      rw [YE.out.1] at d1
      have d2 := cell_of_obj (o := 2) (u := .int .i64 y.x.mn) NA3.out rfl
      have d3 := cell_of_obj (o := 3) (u := .int .i64 y.x.mx) NA3.out rfl
      have d4 := cell_of_obj (o := 4) (u := .bool y.x.lz) NA3.out rfl
      have d5 := cell_of_obj (o := 5) (u := .int .i64 y.x.cap) NA3.out rfl
      have d6 := cell_of_obj (o := 6) (u := .int .i64 y.x.kids) NA3.out rfl
      have f1 := cell_of_obj (o := 1) (u := .slice rba rn rbc) nc rfl
      have f2 := cell_of_obj (o := 2) (u := .int .i64 mnb) nc rfl
      have f3 := cell_of_obj (o := 3) (u := .int .i64 mxb) nc rfl
      have f4 := cell_of_obj (o := 4) (u := .bool lzb) nc rfl
      have f5 := cell_of_obj (o := 5) (u := .int .i64 capb) nc rfl
      clear na nc b hsh
      go_upto_region 30 with fail
      go_cut [144] (fun bv wx => bv = .bool (!bareB y.x k0 mnb mxb lzb capb rn) ∧ wx = w3)
      case first =>
        by_cases c1 : y.x.kids = k0
        · have bc1 : (y.x.kids != k0) = false := by simp [c1]
          have Hc1 := Lib.hid c1
          clear c1
          by_cases c2 : y.x.mn = mnb
          · have bc2 : (y.x.mn != mnb) = false := by simp [c2]
            have Hc2 := Lib.hid c2
            clear c2
            by_cases c3 : y.x.mx = mxb
            · have bc3 : (y.x.mx != mxb) = false := by simp [c3]
              have Hc3 := Lib.hid c3
              clear c3
              by_cases c4 : y.x.lz = lzb
              · have bc4 : (y.x.lz != lzb) = false := by simp [c4]
                have Hc4 := Lib.hid c4
                clear c4
                by_cases c5 : y.x.cap = capb
                · have bc5 : (y.x.cap != capb) = false := by simp [c5]
                  have Hc5 := Lib.hid c5
                  clear c5
                  by_cases c6 : y.x.r.length = rn
                  · have bc6 : ((y.x.r.length : Int) != (rn : Int)) = false := by simp; omega
                    have Hc6 := Lib.hid c6
                    clear c6
                    go_wp2_with fail
                    go_meet
                    exact ⟨by rw [bare_y Hc1.out Hc2.out Hc3.out Hc4.out Hc5.out Hc6.out], rfl⟩
                  · have bc6 : ((y.x.r.length : Int) != (rn : Int)) = true := by simp; omega
                    have Hc6 := Lib.hid c6
                    clear c6
                    go_wp2_with fail
                    go_meet
                    exact ⟨by rw [bare_6 Hc6.out], rfl⟩
                · have bc5 : (y.x.cap != capb) = true := by simp; exact c5
                  have Hc5 := Lib.hid c5
                  clear c5
                  go_wp2_with fail
                  go_meet
                  exact ⟨by rw [bare_5 Hc5.out], rfl⟩
              · have bc4 : (y.x.lz != lzb) = true := by simp; exact c4
                have Hc4 := Lib.hid c4
                clear c4
                go_wp2_with fail
                go_meet
                exact ⟨by rw [bare_4 Hc4.out], rfl⟩
            · have bc3 : (y.x.mx != mxb) = true := by simp; exact c3
              have Hc3 := Lib.hid c3
              clear c3
              go_wp2_with fail
              go_meet
              exact ⟨by rw [bare_3 Hc3.out], rfl⟩
          · have bc2 : (y.x.mn != mnb) = true := by simp; exact c2
            have Hc2 := Lib.hid c2
            clear c2
            go_wp2_with fail
            go_meet
            exact ⟨by rw [bare_2 Hc2.out], rfl⟩
        · have bc1 : (y.x.kids != k0) = true := by simp; exact c1
          have Hc1 := Lib.hid c1
          clear c1
          go_wp2_with fail
          go_meet
          exact ⟨by rw [bare_1 Hc1.out], rfl⟩
      case rest =>
        obtain ⟨rfl, hwc⟩ := hcut
        subst hwc
        clear d1 d2 d3 d4 d5 d6 f1 f2 f3 f4 f5
        cases hbb : bareB y.x k0 mnb mxb lzb capb rn
        · have hs := HSH.out
          rw [hbb, if_neg (by decide)] at hs
          have HS := Lib.hid hs
          clear hs hbb HSH
          go_wp2_with fail
          go_ret
          exact ⟨by rw [← HR.out, HS.out]; rfl, C3.out⟩
        · have hs := HSH.out
          rw [hbb, if_pos rfl] at hs
          have hr := HR.out
          rw [hs] at hr
          obtain ⟨k, rfl⟩ : ∃ k : Nat, k0 = k := ⟨k0.toNat, by omega⟩
          have HRK : Hid (rKids (rWalk (ls.map NdV.x) n) k (a + 1) = res) := Lib.hid (by simpa using hr)
          clear hs hr hbb HSH HR
          have C1 := Lib.hid (show Below W.heap.size W wc from HBW.out.trans (C3.out.mono HWW.out))
          have BD := Lib.hid (rWalk_bd (ls.map NdV.x) n)
          go_wp2_with fail
          go_loopg [1, 10] k (fun gh x1 x10 wr => ∃ (i : Nat) (cur : Option Nat), i ≤ k ∧ gh = k - i ∧ x1 = .int .i64 (wEnd cur) ∧ x10 = .int .i64 i ∧ (match cur with | some q => rKids (rWalk (ls.map NdV.x) n) (k - i) q = res ∧ a + 1 + i ≤ q ∧ q ≤ ls.length | none => res = none ∧ 0 < i) ∧ Below w.heap.size w wr ∧ Below W.heap.size W wr)
          case atStart => exact ⟨0, some (a + 1), Nat.zero_le _, rfl, by simp [wEnd], rfl, ⟨HRK.out, Nat.le_refl _, hlt⟩, C3.out, C1.out⟩
          case round =>
            clear HRK C3 C1 NA3
            obtain ⟨i, cur, hi, rfl, rfl, rfl, hcur, b0, b1⟩ := hrel
            have B0 := Lib.hid b0
            have B1 := Lib.hid b1
            clear b0 b1
            cases cur with
            | none =>
              have HRN := Lib.hid hcur.1
              clear hcur
              have hneg : ¬ (0 : Int) ≤ -1 := by omega
              by_cases hik : i < k
              · have i3 : (i : Int) < (k : Int) := by omega
                go_wp2_with fail
                go_ret
                exact ⟨by rw [HRN.out]; rfl, B0.out⟩
              · have i3 : ¬ (i : Int) < (k : Int) := by omega
                go_wp2_with fail
                go_ret
                exact ⟨by rw [HRN.out]; rfl, B0.out⟩
            | some q =>
              obtain ⟨hq1, hq2, hq3⟩ := hcur
              have HQ1 := Lib.hid hq1
              clear hq1
              by_cases hik : i < k
              · have i3 : (i : Int) < (k : Int) := by omega
                obtain ⟨j, hj⟩ : ∃ j, k - i = j + 1 := ⟨k - i - 1, by omega⟩
                have hq1 := HQ1.out
                rw [hj, rKids] at hq1
                have KQ := Lib.hid (KC q (dp + 1) wr (by omega) (by omega) B1.out)
                have hbq := BD.out q
                generalize rWalk (ls.map NdV.x) n q = nx at hq1 KQ hbq
                have HN := Lib.hid hq1
                have HBQ := Lib.hid hbq
                have hj2 : k - (i + 1) = j := by omega
                have HJ := Lib.hid hj2
                clear hq1 hbq hj hj2 HQ1
                go_wp2_with fail
                refine KQ.out.mono ?_
                rintro e w5 ⟨rfl, b5⟩
                have B5 := Lib.hid (B0.out.trans (b5.mono B0.out.size))
                have B5W := Lib.hid (B1.out.trans (b5.mono B1.out.size))
                clear b5 KQ B0 B1
                go_wp2_with fail
                go_roundg (k - (i + 1))
                case measure => omega
                case rel =>
                  refine ⟨i + 1, nx, by omega, rfl, rfl, by go_num, ?_, B5.out, B5W.out⟩
                  cases nx with
                  | none => exact ⟨HN.out.symm, by omega⟩
                  | some z =>
                    have := HBQ.out z rfl
                    rw [List.length_map] at this
                    exact ⟨by rw [HJ.out]; exact HN.out, by omega, this.2⟩
              · have i3 : ¬ (i : Int) < (k : Int) := by omega
                have hq1 := HQ1.out
                rw [show k - i = 0 by omega, rKids] at hq1
                have HQ2 := Lib.hid hq1
                clear hq1 HQ1
                go_wp2_with fail
                go_ret
                exact ⟨by rw [← HQ2.out]; rfl, B0.out⟩
end
end Go.Proofs.YtooockbfagkknaaGreatDoor.syn
