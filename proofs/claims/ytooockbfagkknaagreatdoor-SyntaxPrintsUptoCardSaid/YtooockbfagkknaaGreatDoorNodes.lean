/- spoorkeep.Nodes, walked. -/
import Derived.Test.YtooockbfagkknaaGreatDoorNrd
import Derived.Deep.RegionHeld3
import Derived.Deep.RegionWith
namespace Go.Proofs.YtooockbfagkknaaGreatDoor.syn
open Go.RowKit Go.Proofs.YtooockbfagkknaaGreatDoor.sl Go.Proofs.YtooockbfagkknaaGreatDoor.cls
theorem nd_take {l m : List NdV} {k : Nat} {x y : NdV} (hx : l[k]? = some x) (hy : m[k]? = some y) (h : (l.take k).map NdV.x = (m.take k).map NdV.x) (e : x.x = y.x) : (l.take (k + 1)).map NdV.x = (m.take (k + 1)).map NdV.x := by
  rw [List.take_add_one, List.take_add_one, List.map_append, List.map_append, h, hx, hy]
  simp [e]
theorem nd_ne {l m : List NdV} {k : Nat} {x y : NdV} (hx : l[k]? = some x) (hy : m[k]? = some y) (e : x.x ≠ y.x) : l.map NdV.x ≠ m.map NdV.x := by
  intro h
  have h1 : (l.map NdV.x)[k]? = some x.x := by rw [List.getElem?_map, hx]; rfl
  have h2 : (m.map NdV.x)[k]? = some y.x := by rw [List.getElem?_map, hy]; rfl
  rw [h, h2] at h1
  exact e (Option.some.inj h1).symm
set_option maxRecDepth 100000 in
theorem two_new (w : World) (x y : NdV) : (((w.alloc (ncell x)).alloc (ncell y)).drew).heap[w.heap.size]? = some (ncell x) ∧ (((w.alloc (ncell x)).alloc (ncell y)).drew).heap[w.heap.size + 1]? = some (ncell y) ∧
    ∀ (a : World), Below a.heap.size a w → Below a.heap.size a (((w.alloc (ncell x)).alloc (ncell y)).drew) := by
  have h1 := heap_alloc_new w (ncell x)
  have h2 := heap_alloc_new (w.alloc (ncell x)) (ncell y)
  have hz : (w.alloc (ncell x)).heap.size = w.heap.size + 1 := Array.size_push ..
  have h3 := (((Below.refl (w.alloc (ncell x)).heap.size (w.alloc (ncell x))).alloc (Nat.le_refl _) (ncell y)).block w.heap.size (by omega)).trans h1
  rw [hz] at h2
  refine ⟨h3, h2, fun a h => ?_⟩
  have hs := h.size
  exact below_drew ((h.alloc hs _).alloc (by omega) _)
set_option maxHeartbeats 8000000 in
set_option maxRecDepth 100000 in
theorem nodesC (la lb : Option Addr) (ca cb : Nat) (ls ms : List NdV) (w : World) (NA : Nrd w la ca ls) (NB : Nrd w lb cb ms) :
    Calls Tryz.prog 7 #[.slice la ls.length ca, .slice lb ms.length cb] w fun e w' => e = .returned (.bool (decide (ls.map NdV.x = ms.map NdV.x))) ∧ Below w.heap.size w w' := by
  have hm1 := NA.rd.max
  have hle1 := NA.rd.le
  have hm2 := NB.rd.max
  have hle2 := NB.rd.le
  unfold maxLen at hm1 hm2
  have HA := Lib.hid NA
  have HB := Lib.hid NB
  clear NA NB
  by_cases hl : ls.length = ms.length
  · have HL := Lib.hid hl
    have hb1 : ((ls.length : Int) != (ms.length : Int)) = false := by simp; omega
    clear hl
    go_enter Tryz.func7, Tryz.ntmps7
    go_wp2_with fail
    go_loopg [5] ls.length (fun g i wr => ∃ k : Nat, k ≤ ls.length ∧ g = ls.length - k ∧ i = .int .i64 k ∧ (ls.take k).map NdV.x = (ms.take k).map NdV.x ∧ Below w.heap.size w wr)
    case atStart => exact ⟨0, by omega, rfl, rfl, rfl, Below.refl _ _⟩
    case round =>
      obtain ⟨k, hk, rfl, rfl, hh, hb⟩ := hrel
      have HH := Lib.hid hh
      have BB := Lib.hid hb
      clear hh hb
      by_cases hlt : k < ls.length
      · have hlt2 : k < ms.length := by have := HL.out; omega
        obtain ⟨x, hx⟩ : ∃ x, ls[k]? = some x := ⟨_, List.getElem?_eq_getElem hlt⟩
        obtain ⟨y, hy⟩ : ∃ y, ms[k]? = some y := ⟨_, List.getElem?_eq_getElem hlt2⟩
        have XE := Lib.hid ((HA.out.kept BB.out).each x (List.mem_of_getElem? hx))
        have YE := Lib.hid ((HB.out.kept BB.out).each y (List.mem_of_getElem? hy))
        obtain ⟨b1, o1, rfl, hbl1, hc1⟩ := (HA.out.kept BB.out).rd.cells eN_len hx
        obtain ⟨b2, o2, rfl, hbl2, hc2⟩ := (HB.out.kept BB.out).rd.cells eN_len hy
        have p0 := hc1 0 (.int .i64 x.x.op) (by omega) rfl
        have p1 := hc1 1 (.slice x.a x.n x.c) (by omega) rfl
        have p2 := hc1 2 (.int .i64 x.x.mn) (by omega) rfl
        have p3 := hc1 3 (.int .i64 x.x.mx) (by omega) rfl
        have p4 := hc1 4 (.bool x.x.lz) (by omega) rfl
        have p5 := hc1 5 (.int .i64 x.x.cap) (by omega) rfl
        have p6 := hc1 6 (.int .i64 x.x.kids) (by omega) rfl
        have q0 := hc2 0 (.int .i64 y.x.op) (by omega) rfl
        have q1 := hc2 1 (.slice y.a y.n y.c) (by omega) rfl
        have q2 := hc2 2 (.int .i64 y.x.mn) (by omega) rfl
        have q3 := hc2 3 (.int .i64 y.x.mx) (by omega) rfl
        have q4 := hc2 4 (.bool y.x.lz) (by omega) rfl
        have q5 := hc2 5 (.int .i64 y.x.cap) (by omega) rfl
        have q6 := hc2 6 (.int .i64 y.x.kids) (by omega) rfl
        simp only [Nat.add_zero] at p0 q0
        simp only [← Nat.add_assoc] at p1 p2 p3 p4 p5 p6 q1 q2 q3 q4 q5 q6
        have HX := Lib.hid hx
        have HY := Lib.hid hy
        clear hx hy hc1 hc2
        have i1 : (k : Int) < (ls.length : Int) := by omega
        have i2 : (k : Int) < (ms.length : Int) := by omega
        go_upto_region 6 with fail
        go_cut [6, 7] (fun s6 s7 wx => ∃ p q, s6 = .pointer (some ⟨p, 0, none⟩) ∧ s7 = .pointer (some ⟨q, 0, none⟩) ∧ wx.heap[p]? = some (ncell x) ∧ wx.heap[q]? = some (ncell y) ∧ Below w.heap.size w wx)
        case first =>
          go_region_held3 (fun w' => w'.cell? ⟨b1, o1 + k * 7, none⟩ = some (.int .i64 x.x.op) ∧ w'.cell? ⟨b1, o1 + k * 7 + 1, none⟩ = some (.slice x.a x.n x.c) ∧ w'.cell? ⟨b1, o1 + k * 7 + 2, none⟩ = some (.int .i64 x.x.mn) ∧ w'.cell? ⟨b1, o1 + k * 7 + 3, none⟩ = some (.int .i64 x.x.mx) ∧ w'.cell? ⟨b1, o1 + k * 7 + 4, none⟩ = some (.bool x.x.lz) ∧ w'.cell? ⟨b1, o1 + k * 7 + 5, none⟩ = some (.int .i64 x.x.cap) ∧ w'.cell? ⟨b1, o1 + k * 7 + 6, none⟩ = some (.int .i64 x.x.kids) ∧ w'.cell? ⟨b2, o2 + k * 7, none⟩ = some (.int .i64 y.x.op) ∧ w'.cell? ⟨b2, o2 + k * 7 + 1, none⟩ = some (.slice y.a y.n y.c) ∧ w'.cell? ⟨b2, o2 + k * 7 + 2, none⟩ = some (.int .i64 y.x.mn) ∧ w'.cell? ⟨b2, o2 + k * 7 + 3, none⟩ = some (.int .i64 y.x.mx) ∧ w'.cell? ⟨b2, o2 + k * 7 + 4, none⟩ = some (.bool y.x.lz) ∧ w'.cell? ⟨b2, o2 + k * 7 + 5, none⟩ = some (.int .i64 y.x.cap) ∧ w'.cell? ⟨b2, o2 + k * 7 + 6, none⟩ = some (.int .i64 y.x.kids)) (first | exact ⟨p0, p1, p2, p3, p4, p5, p6, q0, q1, q2, q3, q4, q5, q6⟩ | go_keep) (first | fail)
          all_goals (go_wp2_with fail)
          all_goals go_meet
          · exact ⟨_, _, rfl, rfl, (two_new wr x y).1, (two_new wr x y).2.1, (two_new wr x y).2.2 _ BB.out⟩
          · exact ⟨_, _, rfl, rfl, (two_new wr y x).2.1, (two_new wr y x).1, (two_new wr y x).2.2 _ BB.out⟩
        case rest =>
          obtain ⟨p, q, rfl, rfl, hp, hq, hb⟩ := hcut
          have BC := Lib.hid hb
          have P := Lib.hid hp
          have Q := Lib.hid hq
          clear p0 p1 p2 p3 p4 p5 p6 q0 q1 q2 q3 q4 q5 q6 hp hq hb
          have XR := Lib.hid ((HA.out.kept BC.out).each x (List.mem_of_getElem? HX.out))
          have YR := Lib.hid ((HB.out.kept BC.out).each y (List.mem_of_getElem? HY.out))
          have d0 := cell_of_obj (o := 0) (u := .int .i64 x.x.op) P.out rfl
          have d1 := cell_of_obj (o := 1) (u := .slice x.a x.n x.c) P.out rfl
          have d2 := cell_of_obj (o := 2) (u := .int .i64 x.x.mn) P.out rfl
          have d3 := cell_of_obj (o := 3) (u := .int .i64 x.x.mx) P.out rfl
          have d4 := cell_of_obj (o := 4) (u := .bool x.x.lz) P.out rfl
          have d5 := cell_of_obj (o := 5) (u := .int .i64 x.x.cap) P.out rfl
          have d6 := cell_of_obj (o := 6) (u := .int .i64 x.x.kids) P.out rfl
          have e0 := cell_of_obj (o := 0) (u := .int .i64 y.x.op) Q.out rfl
          have e1 := cell_of_obj (o := 1) (u := .slice y.a y.n y.c) Q.out rfl
          have e2 := cell_of_obj (o := 2) (u := .int .i64 y.x.mn) Q.out rfl
          have e3 := cell_of_obj (o := 3) (u := .int .i64 y.x.mx) Q.out rfl
          have e4 := cell_of_obj (o := 4) (u := .bool y.x.lz) Q.out rfl
          have e5 := cell_of_obj (o := 5) (u := .int .i64 y.x.cap) Q.out rfl
          have e6 := cell_of_obj (o := 6) (u := .int .i64 y.x.kids) Q.out rfl
          clear P Q XE YE BB
          have NE : Hid (x.x ≠ y.x → ls.map NdV.x ≠ ms.map NdV.x) := Lib.hid (nd_ne HX.out HY.out)
          have EQ : Hid (x.x = y.x → (ls.take (k + 1)).map NdV.x = (ms.take (k + 1)).map NdV.x) := Lib.hid (nd_take HX.out HY.out HH.out)
          clear HX HY HH
          obtain ⟨⟨xo, xr, xmn, xmx, xlz, xcap, xk⟩, xa, xn, xc⟩ := x
          obtain ⟨⟨yo, yr, ymn, ymx, ylz, ycap, yk⟩, ya, yn, yc⟩ := y
          simp only at d0 d1 d2 d3 d4 d5 d6 e0 e1 e2 e3 e4 e5 e6
          by_cases h0 : xo = yo
          rotate_left
          · have n0 : (xo == yo) = false := by simpa using h0
            have NE2 := Lib.hid (NE.out (by intro e; simp only [Nd.mk.injEq] at e; omega))
            clear NE EQ
            go_wp2_with fail
            go_ret
            exact ⟨by rw [decide_eq_false NE2.out]; rfl, BC.out⟩
          subst h0
          by_cases h1 : xmn = ymn
          rotate_left
          · have n1 : (xmn == ymn) = false := by simpa using h1
            have NE2 := Lib.hid (NE.out (by intro e; simp only [Nd.mk.injEq] at e; omega))
            clear NE EQ
            go_wp2_with fail
            go_ret
            exact ⟨by rw [decide_eq_false NE2.out]; rfl, BC.out⟩
          subst h1
          by_cases h2 : xmx = ymx
          rotate_left
          · have n2 : (xmx == ymx) = false := by simpa using h2
            have NE2 := Lib.hid (NE.out (by intro e; simp only [Nd.mk.injEq] at e; omega))
            clear NE EQ
            go_wp2_with fail
            go_ret
            exact ⟨by rw [decide_eq_false NE2.out]; rfl, BC.out⟩
          subst h2
          by_cases h3 : xlz = ylz
          rotate_left
          · have n3 : (xlz == ylz) = false := by simpa using h3
            have NE2 := Lib.hid (NE.out (by intro e; simp only [Nd.mk.injEq] at e; exact h3 e.2.2.2.2.1))
            clear NE EQ
            go_wp2_with fail
            go_ret
            exact ⟨by rw [decide_eq_false NE2.out]; rfl, BC.out⟩
          subst h3
          by_cases h4 : xcap = ycap
          rotate_left
          · have n4 : (xcap == ycap) = false := by simpa using h4
            have NE2 := Lib.hid (NE.out (by intro e; simp only [Nd.mk.injEq] at e; omega))
            clear NE EQ
            go_wp2_with fail
            go_ret
            exact ⟨by rw [decide_eq_false NE2.out]; rfl, BC.out⟩
          subst h4
          by_cases h5 : xk = yk
          rotate_left
          · have n5 : (xk == yk) = false := by simpa using h5
            have NE2 := Lib.hid (NE.out (by intro e; simp only [Nd.mk.injEq] at e; omega))
            clear NE EQ
            go_wp2_with fail
            go_ret
            exact ⟨by rw [decide_eq_false NE2.out]; rfl, BC.out⟩
          subst h5
          have hxn : xn = xr.length := XR.out.1
          have hyn : yn = yr.length := YR.out.1
          subst hxn hyn
          have SC := Lib.hid (same xa ya xr yr xc yc wc XR.out.2.1 YR.out.2.1)
          clear XR YR
          by_cases hr : xr = yr
          · subst hr
            rw [decide_eq_true rfl] at SC
            have EQ2 := Lib.hid (EQ.out rfl)
            clear NE EQ
            go_wp2_with (go_at_call 22; refine SC.out.mono ?_; rintro e w5 ⟨rfl, b5⟩; have B5 := Lib.hid (BC.out.trans (b5.mono BC.out.size)); clear b5)
            go_roundg (ls.length - (k + 1))
            case measure => omega
            case rel => exact ⟨k + 1, by omega, rfl, by go_num, EQ2.out, B5.out⟩
          · rw [decide_eq_false hr] at SC
            have NE2 := Lib.hid (NE.out (by intro e; simp only [Nd.mk.injEq] at e; exact hr e.2.1))
            clear NE EQ
            go_wp2_with (go_at_call 22; refine SC.out.mono ?_; rintro e w5 ⟨rfl, b5⟩; have B5 := Lib.hid (BC.out.trans (b5.mono BC.out.size)); clear b5)
            go_ret
            exact ⟨by rw [decide_eq_false NE2.out]; rfl, B5.out⟩
      · obtain rfl : k = ls.length := by omega
        go_wp2_with fail
        go_ret
        refine ⟨?_, BB.out⟩
        have : ls.map NdV.x = ms.map NdV.x := by have := HH.out; rwa [List.take_length, HL.out, List.take_length] at this
        simp [this]
  · have HL := Lib.hid hl
    have hb1 : ((ls.length : Int) != (ms.length : Int)) = true := by simp; omega
    clear hl
    go_enter Tryz.func7, Tryz.ntmps7
    go_wp2_with fail
    go_ret
    exact ⟨by rw [decide_eq_false fun e : ls.map NdV.x = ms.map NdV.x => HL.out (by have := congrArg List.length e; simpa using this)]; rfl, Below.refl _ _⟩
end Go.Proofs.YtooockbfagkknaaGreatDoor.syn
