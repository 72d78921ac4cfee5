/- Right, Groups, Print, walked. -/
import Derived.Test.YtooockbfagkknaaGreatDoorText2
import Derived.Test.YtooockbfagkknaaGreatDoorBck
namespace Go.Proofs.YtooockbfagkknaaGreatDoor.syn
open Go.RowKit Go.Proofs.YtooockbfagkknaaGreatDoor.sl Go.Proofs.YtooockbfagkknaaGreatDoor.cls
theorem text_all {W : World} {P : Nat} {la : Option Addr} {lc : Nat} {ls : List NdV} (N : Nrd W la lc ls) (hP : W.heap.size ≤ P) (hlen : ls.length ≤ 480) (hTab : Tab W) : ∀ n, TextC W P la lc ls n
  | 0 => fun _a _b _g _w hw _ _ => nomatch hw
  | n + 1 => textC N hP hlen hTab (kidC N hP hlen (text_all N hP hlen hTab n))
set_option maxHeartbeats 4000000 in
set_option maxRecDepth 100000 in
theorem rightNC (la : Option Addr) (lc : Nat) (ls : List NdV) (w : World) (N : Nrd w la lc ls) : Calls Tryz.prog 11 #[.slice la ls.length lc] w fun e w' => e = .returned (.bool (rightF (ls.map NdV.x))) ∧ Below w.heap.size w w' := by
  have hm := N.rd.max
  have hle := N.rd.le
  unfold maxLen at hm
  suffices key : ∀ r, rightF (ls.map NdV.x) = r → Calls Tryz.prog 11 #[.slice la ls.length lc] w fun e w' => e = .returned (.bool r) ∧ Below w.heap.size w w' from key _ rfl
  intro r hr
  unfold rightF at hr
  rw [List.length_map] at hr
  have HN := Lib.hid N
  clear N
  by_cases h1 : ls.length < 1
  · have e0 : decide (1 ≤ ls.length) = false := decide_eq_false (by omega)
    rw [e0] at hr
    have HR := Lib.hid hr
    have i1 : (ls.length : Int) < 1 := by omega
    clear hr e0
    go_enter Tryz.func11, Tryz.ntmps11
    go_wp2_with fail
    go_ret
    exact ⟨by rw [← HR.out]; rfl, Below.refl _ _⟩
  by_cases h2 : 480 < ls.length
  · have e0 : decide (ls.length ≤ 480) = false := decide_eq_false (by omega)
    rw [e0, Bool.and_false] at hr
    have HR := Lib.hid hr
    have i1 : ¬ (ls.length : Int) < 1 := by omega
    have i2 : (480 : Int) < (ls.length : Int) := by omega
    clear hr e0
    go_enter Tryz.func11, Tryz.ntmps11
    go_wp2_with fail
    go_ret
    exact ⟨by rw [← HR.out]; rfl, Below.refl _ _⟩
  have e0 : decide (1 ≤ ls.length) = true := decide_eq_true (by omega)
  have e1 : decide (ls.length ≤ 480) = true := decide_eq_true (by omega)
  rw [e0, e1] at hr
  have i1 : ¬ (ls.length : Int) < 1 := by omega
  have i2 : ¬ (480 : Int) < (ls.length : Int) := by omega
  have OC := Lib.hid (oneC w w.heap.size la lc ls HN.out (Nat.le_refl _) (by omega) 241 0 rfl 0 0 (w.alloc (wkO la ls.length lc 0 0)) (Nat.zero_le _) (Nat.le_refl _) (heap_alloc_new w _) ((Below.refl w.heap.size w).alloc (Nat.le_refl _) _))
  have HR := Lib.hid hr
  clear hr e0 e1
  go_enter Tryz.func11, Tryz.ntmps11
  go_wp2_with fail
  refine OC.out.mono ?_
  generalize oneF (ls.map NdV.x) 241 0 0 = q at HR ⊢
  rintro e w2 ⟨rfl, o2, b2⟩
  have O2 := Lib.hid o2
  have B2 := Lib.hid b2
  clear o2 b2 OC
  obtain ⟨qb, qa, qg⟩ := q
  have c1 := cell_of_obj (o := 1) (u := .int .i64 qa) O2.out rfl
  cases qb
  · go_wp2_with fail
    go_ret
    exact ⟨by rw [← HR.out]; rfl, B2.out⟩
  · by_cases hq : qa = ls.length
    · have n1 : ((qa : Int) == (ls.length : Int)) = true := by simp; omega
      go_wp2_with fail
      go_ret
      exact ⟨by rw [← HR.out]; simp [hq], B2.out⟩
    · have n1 : ((qa : Int) == (ls.length : Int)) = false := by simp; omega
      go_wp2_with fail
      go_ret
      exact ⟨by rw [← HR.out]; simp [hq], B2.out⟩
set_option maxHeartbeats 4000000 in
set_option maxRecDepth 100000 in
theorem printC (la : Option Addr) (lc : Nat) (ls : List NdV) (w : World) (N : Nrd w la lc ls) (hT : Tab w) : Calls Tryz.prog 12 #[.slice la ls.length lc] w fun e w' => e = .returned (.string (if rightF (ls.map NdV.x) then bsR (printR (ls.map NdV.x)) else ⟨#[]⟩)) ∧ Below w.heap.size w w' := by
  have RC := Lib.hid (rightNC la lc ls w N)
  have HN := Lib.hid N
  have HTb := Lib.hid hT
  clear N hT
  cases hr : rightF (ls.map NdV.x)
  · rw [hr] at RC
    clear hr
    go_enter Tryz.func12, Tryz.ntmps12
    go_wp2_with fail
    refine RC.out.mono ?_
    rintro e w2 ⟨rfl, b2⟩
    go_wp2_with fail
    go_ret
    exact ⟨rfl, b2⟩
  · rw [hr] at RC
    have hr2 : rRight (ls.map NdV.x) = true := by rw [rRight_eq]; exact hr
    unfold rRight at hr2
    simp only [Bool.and_eq_true, beq_iff_eq, decide_eq_true_eq, List.length_map] at hr2
    obtain ⟨⟨⟨hl1, hl2⟩, hwk⟩, _⟩ := hr2
    have HW := Lib.hid hwk
    clear hr hwk
    go_enter Tryz.func12, Tryz.ntmps12
    go_wp2_with fail
    refine RC.out.mono ?_
    rintro e w2 ⟨rfl, b2⟩
    have B2 := Lib.hid b2
    clear b2 RC
    have TC := Lib.hid (text_all (HN.out.kept B2.out) (Nat.le_refl _) hl2 (HTb.out.kept B2.out) 241 0 ls.length 0 (w2.alloc (wkO la ls.length lc 0 0)) HW.out (heap_alloc_new w2 _) ((Below.refl w2.heap.size w2).alloc (Nat.le_refl _) _))
    have B3 := Lib.hid (B2.out.alloc B2.out.size (wkO la ls.length lc 0 0))
    have hbz := B2.out.size
    go_wp2_with fail
    refine TC.out.mono ?_
    rintro e w3 ⟨rfl, o3, k3⟩
    have B4 := Lib.hid (kp_below B3.out k3 hbz)
    clear o3 k3 TC
    go_wp2_with fail
    go_ret
    exact ⟨rfl, B4.out⟩
theorem grpN_step {ls : List NdV} {k : Nat} {y : NdV} (h : ls[k]? = some y) : grpN ((ls.take (k + 1)).map NdV.x) = grpN ((ls.take k).map NdV.x) + if y.x.op = 6 then 1 else 0 := by
  rw [List.take_add_one, h]
  simp only [grpN, Option.toList_some, List.map_append, List.map_cons, List.map_nil, List.filter_append, List.length_append]
  by_cases h6 : y.x.op = 6 <;> simp [h6]
set_option maxHeartbeats 4000000 in
set_option maxRecDepth 100000 in
theorem groupsC (la : Option Addr) (lc : Nat) (ls : List NdV) (w : World) (N : Nrd w la lc ls) : Calls Tryz.prog 14 #[.slice la ls.length lc] w fun e w' => e = .returned (.int .i64 (if rightF (ls.map NdV.x) then (grpN (ls.map NdV.x) : Int) else 0)) ∧ Below w.heap.size w w' := by
  have hm := N.rd.max
  have hle := N.rd.le
  unfold maxLen at hm
  have RC := Lib.hid (rightNC la lc ls w N)
  have HN := Lib.hid N
  clear N
  cases hr : rightF (ls.map NdV.x)
  · rw [hr] at RC
    clear hr
    go_enter Tryz.func14, Tryz.ntmps14
    go_wp2_with fail
    refine RC.out.mono ?_
    rintro e w2 ⟨rfl, b2⟩
    go_wp2_with fail
    go_ret
    exact ⟨rfl, b2⟩
  · rw [hr] at RC
    clear hr
    go_enter Tryz.func14, Tryz.ntmps14
    go_wp2_with fail
    refine RC.out.mono ?_
    rintro e w2 ⟨rfl, b2⟩
    have B2 := Lib.hid b2
    clear b2 RC
    go_wp2_with fail
    go_loopg [3, 10] ls.length (fun gh o i wr => ∃ (k : Nat) (m : Nat), k ≤ ls.length ∧ gh = ls.length - k ∧ i = .int .i64 k ∧ o = .int .i64 m ∧ m = grpN ((ls.take k).map NdV.x) ∧ m ≤ k ∧ Below w.heap.size w wr)
    case atStart => exact ⟨0, 0, Nat.zero_le _, rfl, rfl, rfl, rfl, Nat.le_refl _, B2.out⟩
    case round =>
      clear B2
      obtain ⟨k, m, hk, rfl, rfl, rfl, hmm, hmk, hb⟩ := hrel
      have HM := Lib.hid hmm
      have BB := Lib.hid hb
      clear hmm hb
      by_cases hlt : k < ls.length
      · obtain ⟨y, hy⟩ : ∃ y, ls[k]? = some y := ⟨_, List.getElem?_eq_getElem hlt⟩
        have GS := Lib.hid (grpN_step hy)
        obtain ⟨bb, off, rfl, hbl, hc⟩ := (HN.out.kept BB.out).rd.cells eN_len hy
        have q0 := hc 0 (.int .i64 y.x.op) (by omega) rfl
        have q1 := hc 1 (.slice y.a y.n y.c) (by omega) rfl
        have q2 := hc 2 (.int .i64 y.x.mn) (by omega) rfl
        have q3 := hc 3 (.int .i64 y.x.mx) (by omega) rfl
        have q4 := hc 4 (.bool y.x.lz) (by omega) rfl
        have q5 := hc 5 (.int .i64 y.x.cap) (by omega) rfl
        have q6 := hc 6 (.int .i64 y.x.kids) (by omega) rfl
        simp only [Nat.add_zero] at q0
        simp only [← Nat.add_assoc] at q1 q2 q3 q4 q5 q6
        clear hc hy
        have i1 : (k : Int) < (ls.length : Int) := by omega
        have B3 := Lib.hid (BB.out.alloc BB.out.size (ncell y))
        by_cases h6 : y.x.op = 6
        · have n6 : (y.x.op == 6) = true := by simpa using h6
          rw [if_pos h6] at GS
          clear h6
          go_wp2_with fail
          go_roundg (ls.length - (k + 1))
          case measure => omega
          case rel => exact ⟨k + 1, m + 1, by omega, rfl, by go_num, by go_num, by rw [GS.out, ← HM.out], by omega, B3.out⟩
        · have n6 : (y.x.op == 6) = false := by simpa using h6
          rw [if_neg h6] at GS
          clear h6
          go_wp2_with fail
          go_roundg (ls.length - (k + 1))
          case measure => omega
          case rel => exact ⟨k + 1, m, by omega, rfl, by go_num, rfl, by rw [GS.out, ← HM.out]; rfl, by omega, B3.out⟩
      · obtain rfl : k = ls.length := by omega
        go_wp2_with fail
        go_ret
        refine ⟨?_, BB.out⟩
        have := HM.out
        rw [List.take_length] at this
        rw [← this]
        rfl
/-! ### nest -/
theorem byteNe {x : UInt8} {n : UInt8} (h : ¬ x = n) : ((x.toNat : Int) == (n.toNat : Int)) = false := by
  simp only [beq_eq_false_iff_ne, ne_eq, Int.ofNat_inj]
  exact fun e => h (UInt8.toNat_inj.mp e)
def stepB (s : Bool × Int × Int) (c : UInt8) : Bool × Int × Int := if s.1 then (false, s.2) else if c = 92 then (true, s.2) else if c = 40 then (false, s.2.1 + 1, max s.2.2 (s.2.1 + 1)) else if c = 41 then (false, s.2.1 - 1, s.2.2) else s
/-- How deep brackets stand in a text. -/
def nestB (l : List UInt8) : Int := (l.foldl stepB (false, 0, 0)).2.2
end Go.Proofs.YtooockbfagkknaaGreatDoor.syn
