/- The insertion sort of spoorref7.marks, in plain lists: one swap, and what a round keeps. -/
import Derived.Test.YtooockbfagkknaaGreatDoorBase
import Derived.RegionTactic
import Derived.Deep.Light
import Derived.Test.YtooockbfagkknaaGreatDoorCls
import Derived.StillTailTactics
namespace Go.Proofs.YtooockbfagkknaaGreatDoor.cls
open Go.RowKit Go.Proofs.YtooockbfagkknaaGreatDoor.sl
/-- Places j and j + 1 exchanged. -/
def swap (m : List Int) (j : Nat) : List Int := (m.set j (m.getD (j + 1) 0)).set (j + 1) (m.getD j 0)
theorem swap_len (m : List Int) (j : Nat) : (swap m j).length = m.length := by simp [swap]
theorem swap_get (m : List Int) (j i : Nat) (h : j + 1 < m.length) : (swap m j).getD i 0 = if i = j + 1 then m.getD j 0 else if i = j then m.getD (j + 1) 0 else m.getD i 0 := by
  unfold swap
  simp only [List.getD_eq_getElem?_getD, List.getElem?_set, List.length_set]
  by_cases h1 : i = j + 1
  · subst h1
    simp [h]
  · have h1' : ¬ j + 1 = i := fun e => h1 e.symm
    by_cases h2 : i = j
    · subst h2
      simp [show i < m.length by omega]
    · have h2' : ¬ j = i := fun e => h2 e.symm
      simp [h1, h2, h1', h2']
theorem swap_perm (m : List Int) (j : Nat) (h : j + 1 < m.length) : (swap m j).Perm m := by
  have e1 : m = m.take j ++ (m.getD j 0 :: m.getD (j + 1) 0 :: m.drop (j + 2)) := by
    apply List.ext_getElem?
    intro i
    by_cases h1 : i < j
    · rw [List.getElem?_append_left (by simp; omega), List.getElem?_take_of_lt h1]
    · rw [List.getElem?_append_right (by simp; omega)]
      simp only [List.length_take, show min j m.length = j by omega]
      rcases hd : i - j with _ | _ | n
      · obtain rfl : i = j := by omega
        simp [List.getD_eq_getElem?_getD, List.getElem?_eq_getElem (show i < m.length by omega)]
      · obtain rfl : i = j + 1 := by omega
        simp [List.getD_eq_getElem?_getD, List.getElem?_eq_getElem h]
      · simp only [List.getElem?_cons_succ, List.getElem?_drop]
        congr 1; omega
  have e2 : swap m j = m.take j ++ (m.getD (j + 1) 0 :: m.getD j 0 :: m.drop (j + 2)) := by
    unfold swap
    generalize hA : m.getD j 0 = A at *
    generalize hB : m.getD (j + 1) 0 = C at *
    conv => lhs; rw [e1]
    rw [List.set_append_right _ _ (by simp; omega)]
    simp only [List.length_take, show min j m.length = j by omega, Nat.sub_self, List.set_cons_zero]
    rw [List.set_append_right _ _ (by simp; omega)]
    simp only [List.length_take, show min j m.length = j by omega, show j + 1 - j = 1 by omega]
    rfl
  rw [e2]
  conv => rhs; rw [e1]
  exact List.Perm.append_left _ (List.Perm.swap _ _ _)
/-- All pairs up to i are in order but those that end at k. -/
def Almost (m : List Int) (k i : Nat) : Prop := ∀ a b, a < b → b ≤ i → b ≠ k → m.getD a 0 ≤ m.getD b 0
def Upto (m : List Int) (i : Nat) : Prop := ∀ a b, a < b → b < i → m.getD a 0 ≤ m.getD b 0
theorem almost_start {m : List Int} {i : Nat} (h : Upto m i) : Almost m i i := fun a b h1 h2 h3 => h a b h1 (by omega)
theorem almost_swap {m : List Int} {j i : Nat} (h : Almost m (j + 1) i) (hi : i < m.length) (hj : j + 1 ≤ i) (hgt : m.getD (j + 1) 0 < m.getD j 0) : Almost (swap m j) j i := by
  intro a b h1 h2 h3
  rw [swap_get m j a (by omega), swap_get m j b (by omega)]
  by_cases hb : b = j + 1
  · subst hb
    rw [if_pos rfl, if_neg (by omega)]
    by_cases ha : a = j
    · rw [if_pos ha]; omega
    · rw [if_neg ha]; exact h a j (by omega) (by omega) (by omega)
  · rw [if_neg hb, if_neg h3]
    by_cases ha : a = j + 1
    · rw [if_pos ha]; exact h j b (by omega) h2 hb
    · rw [if_neg ha]
      by_cases ha2 : a = j
      · rw [if_pos ha2]; exact h (j + 1) b (by omega) h2 hb
      · rw [if_neg ha2]; exact h a b h1 h2 hb
theorem almost_end {m : List Int} {k i : Nat} (h : Almost m k i) (hk : k = 0 ∨ m.getD (k - 1) 0 ≤ m.getD k 0) : Upto m (i + 1) := by
  intro a b h1 h2
  by_cases hb : b = k
  · subst hb
    rcases hk with rfl | hk
    · omega
    · by_cases ha : a = b - 1
      · subst ha; exact hk
      · have := h a (b - 1) (by omega) (by omega) (by omega); omega
  · exact h a b h1 (by omega) hb
theorem upto_all {m : List Int} (h : Upto m m.length) : m.Pairwise (· ≤ ·) := by
  rw [List.pairwise_iff_getElem]
  intro i j hi hj hij
  have := h i j hij hj
  simpa [List.getD_eq_getElem?_getD, List.getElem?_eq_getElem hi, List.getElem?_eq_getElem hj] using this
end Go.Proofs.YtooockbfagkknaaGreatDoor.cls
/- spoorref7.marks. -/
namespace Go.Proofs.YtooockbfagkknaaGreatDoor.cls
open Go.RowKit Go.Proofs.YtooockbfagkknaaGreatDoor.sl
def ei (r : Int) : List Value := [.int .i32 r]
theorem ei_len (r : Int) : (ei r).length = 1 := rfl
theorem ei_one (r : Int) : ∀ u ∈ ei r, u.oneCell' = true := by
  intro u hu
  simp [ei] at hu
  subst hu
  rfl
theorem elem_i32 : ElemTy Tryz.prog 50 21 1 4 := ElemTy.mk' (z := .int .i32 0) Tryz.underlying50 (by kernel_rfl) rfl (by decide)
abbrev OwnI (B : Nat) (w : World) (v : Value) (l : List Int) : Prop := Own ei 1 21 B w v l
def m1 (x : Rg) : Bool := decide (x.1 ≤ x.2) && decide (0 ≤ x.1) && decide (x.1 ≤ 1114111)
def m2 (x : Rg) : Bool := decide (x.1 ≤ x.2) && decide (0 ≤ x.2) && decide (x.2 < 1114111)
def markF (x : Rg) : List Int := (if m1 x then [x.1] else []) ++ (if m2 x then [x.2 + 1] else [])
def marks0 (l : List Rg) : List Int := [0, 55296, 57344, 1114112] ++ l.flatMap markF
theorem markF_len (x : Rg) : (markF x).length ≤ 2 := by unfold markF; split <;> split <;> simp
theorem own_set {B : Nat} {w : World} {g n cap : Nat} {m : List Int} (h : OwnI B w (.slice (some ⟨g, 0, none⟩) n cap) m) (hn : n = m.length) {j : Nat} (hj : j < m.length) (y : Int) :
    OwnI B (w.setCell ⟨g, j, none⟩ (.int .i32 y)) (.slice (some ⟨g, 0, none⟩) n cap) (m.set j y) := by
  have := h.store hn ei_len (i := j) (t := 0) (x := m.getD j 0) (y := y) (u := .int .i32 y) (getD_eq hj 0) (by omega) rfl
  simpa using this
set_option maxHeartbeats 4000000 in
set_option maxRecDepth 100000 in
theorem marks (a : Option Addr) (l : List Rg) (cap : Nat) (w : World) (h : Rd er w a l cap) (hl : l.length ≤ 2000000) :
    Calls Tryz.prog 63 #[.slice a l.length cap] w fun e w' => ∃ v m, e = .returned v ∧ m.Perm (marks0 l) ∧ m.Pairwise (· ≤ ·) ∧ OwnI w.heap.size w' v m ∧ Below w.heap.size w w' := by
  have hm := h.max
  have hle := h.le
  unfold maxLen at hm
  have H := Lib.hid h
  clear h
  go_enter Tryz.func63, Tryz.ntmps63
  go_wp2_with fail
  have o0 : OwnI w.heap.size (w.alloc (.cells #[.int .i32 0, .int .i32 55296, .int .i32 57344, .int .i32 1114112] 21)) (.slice (some ⟨w.heap.size, 0, none⟩) 4 4) [0, 55296, 57344, 1114112] := by
    unfold OwnI Own
    exact World.ownsRow_lit w #[.int .i32 0, .int .i32 55296, .int .i32 57344, .int .i32 1114112] 4 (Nat.le_refl _) (by simp [maxLen]) rfl
  have b0 := (Below.refl w.heap.size w).alloc (Nat.le_refl _) (.cells #[.int .i32 0, .int .i32 55296, .int .i32 57344, .int .i32 1114112] 21)
  go_loopg [3, 4] l.length (fun g v i wr => ∃ k : Nat, k ≤ l.length ∧ g = l.length - k ∧ i = .int .i64 k ∧ OwnI w.heap.size wr v (marks0 (l.take k)) ∧ Below w.heap.size w wr)
  case atStart => exact ⟨0, by omega, rfl, rfl, by simpa [marks0] using o0, b0⟩
  case round =>
    obtain ⟨k, hk, rfl, rfl, ho, hb⟩ := hrel
    clear o0 b0
    have hs := hb.size
    by_cases hlt : k < l.length
    · obtain ⟨x, hx⟩ : ∃ x, l[k]? = some x := ⟨_, List.getElem?_eq_getElem hlt⟩
      obtain ⟨b, off, rfl, hbl, c0, c1⟩ := Rd.pair (H.out.kept hb) hx
      have HX := Lib.hid hx
      clear hx
      have hlen : (marks0 (l.take k)).length ≤ 4000100 := by
        have := flat_len_le markF 2 markF_len (l.take k)
        simp [marks0] at *
        omega
      obtain ⟨cur, hcur⟩ : ∃ cur, marks0 (l.take k) = cur := ⟨_, rfl⟩
      rw [hcur] at ho hlen
      have HC := Lib.hid hcur
      clear hcur
      go_upto_region 5 with (fail)
      go_cut [40] (fun s wx => s = .bool (m1 x) ∧ ∃ nq, wx = wr.drewN nq)
      case first =>
        refine wp_region_quiet_lit (by kernel_rfl) (by kernel_rfl) ?_
        repeat (any_goals (first | go_big_quiet_step (fail) | quiet_step (fail) | (refine wpQuiet_step (fun K hK => ?_); go_simp; split <;> (refine hK _ ?_; clear hK K))))
        all_goals (refine wpQuiet_nil ?_; intro _ hw'; obtain ⟨nq, hw''⟩ := hw'; subst hw'')
        all_goals go_wp2_with fail
        all_goals go_meet
        all_goals go_light
        all_goals (refine ⟨congrArg Value.bool ?_, nq, rfl⟩; rw [Bool.eq_iff_iff]; simp [m1]; omega)
      case rest =>
        obtain ⟨rfl, nq, rfl⟩ := hcut
        go_upto_if 40 with (fail)
        go_cut [3] (fun v wx => OwnI w.heap.size wx v (cur ++ (if m1 x then [x.1] else [])) ∧ Below w.heap.size w wx)
        case first =>
          cases e1 : m1 x
          · go_wp2_with fail
            go_meet
            exact ⟨by simpa [e1] using ho.drewN nq, drewN_below hb _⟩
          · go_wp2_with (at_builtin; go_must (refine wpList_app1 elem_i32 rfl rfl rfl rfl (by simp) (ho.drewN _) x.1 rfl ei_len ei_one (by omega) (by omega) (by simpa using hb.size) ?_); intro v1 w1 o1 g1)
            go_meet
            exact ⟨by simpa [e1] using o1, grow_below (drewN_below hb _) (ho.drewN _) g1 (Nat.le_refl _) (by simpa using hb.size)⟩
        case rest =>
          obtain ⟨ho2, hb2⟩ := hcut
          clear ho hb c0 c1
          have hlen2 : (cur ++ (if m1 x then [x.1] else [])).length ≤ 4000101 := by split <;> simp <;> omega
          obtain ⟨b3, off3, e3, hbl3, c0, c1⟩ := Rd.pair (H.out.kept hb2) HX.out
          cases e3
          go_upto_region 7 with (fail)
          go_cut [75] (fun s wx => s = .bool (m2 x) ∧ ∃ nq, wx = wc.drewN nq)
          case first =>
            refine wp_region_quiet_lit (by kernel_rfl) (by kernel_rfl) ?_
            repeat (any_goals (first | go_big_quiet_step (fail) | quiet_step (fail) | (refine wpQuiet_step (fun K hK => ?_); go_simp; split <;> (refine hK _ ?_; clear hK K))))
            all_goals (refine wpQuiet_nil ?_; intro _ hw'; obtain ⟨nq, hw''⟩ := hw'; subst hw'')
            all_goals go_wp2_with fail
            all_goals go_meet
            all_goals go_light
            all_goals (refine ⟨congrArg Value.bool ?_, nq, rfl⟩; rw [Bool.eq_iff_iff]; simp [m2]; omega)
          case rest =>
            obtain ⟨rfl, nq, rfl⟩ := hcut
            have e : marks0 (l.take (k + 1)) = cur ++ (if m1 x then [x.1] else []) ++ (if m2 x then [x.2 + 1] else []) := by
              rw [← HC.out]
              simp only [marks0, take_flat _ HX.out, markF, List.append_assoc]
            have E := Lib.hid e
            clear e
            cases e2 : m2 x
            · go_wp2_with fail
              go_roundg (l.length - (k + 1))
              case measure => omega
              case rel =>
                refine ⟨k + 1, by omega, rfl, by go_num, ?_, drewN_below hb2 _⟩
                rw [E.out]
                simpa [e2] using ho2.drewN nq
            · have hx2 : x.2 < 1114111 := by simp [m2] at e2; omega
              have hx3 : 0 ≤ x.2 := by simp [m2] at e2; omega
              go_wp2_with (at_builtin; go_must (refine wpList_app1 elem_i32 rfl rfl rfl rfl (by simp) (ho2.drewN _) (x.2 + 1) rfl ei_len ei_one (by omega) (by omega) (by simpa using hb2.size) ?_); intro v1 w1 o1 g1)
              go_roundg (l.length - (k + 1))
              case measure => omega
              case rel =>
                refine ⟨k + 1, by omega, rfl, by go_num, ?_, grow_below (drewN_below hb2 _) (ho2.drewN _) g1 (Nat.le_refl _) (by simpa using hb2.size)⟩
                rw [E.out]
                simpa [e2] using o1
    · obtain rfl : k = l.length := by omega
      rw [List.take_length] at ho
      have hlen := flat_len_le markF 2 markF_len l
      have hcl : (marks0 l).length = 4 + (l.flatMap markF).length := by simp [marks0]; omega
      obtain ⟨cur, hcr⟩ : ∃ cur, marks0 l = cur := ⟨_, rfl⟩
      rw [hcr] at ho hcl
      have HCR := Lib.hid hcr
      clear hcr
      obtain ⟨g, co, rfl, hBg, hg, hlc, hcm⟩ := ho.form (by intro e; rw [e] at hcl; simp at hcl; omega)
      have hcl1 : 4 ≤ cur.length := by omega
      have hcl2 : cur.length ≤ 4000100 := by omega
      unfold maxLen at hcm
      have HO := Lib.hid ho
      clear ho hcl hlen
      go_wp2_with fail
      go_loopg [5, 6] (cur.length - 1) (fun gg i _ wq => ∃ (n : Nat) (m : List Int), 1 ≤ n ∧ n ≤ cur.length ∧ gg = cur.length - n ∧ i = .int .i64 n ∧ m.Perm cur ∧ Upto m n ∧ OwnI w.heap.size wq (.slice (some ⟨g, 0, none⟩) cur.length co) m ∧ Below w.heap.size w wq)
      case atStart => exact ⟨1, cur, by omega, by omega, by omega, rfl, List.Perm.refl _, fun a b h1 h2 => by omega, HO.out, hb⟩
      case round =>
        obtain ⟨n, m, hn1, hn2, hgk, rfl, hp, hu, ho, hb2⟩ := hrel
        have HGK := Lib.hid hgk
        have HP := Lib.hid hp
        have hml : m.length = cur.length := hp.length_eq
        have HML := Lib.hid hml
        have HU := Lib.hid hu
        have HO2 := Lib.hid ho
        clear hgk hp hml hu ho HO hb
        by_cases hlt : n < cur.length
        · go_wp2_with fail
          go_loopg [6] n (fun gg jj wq => ∃ m : List Int, gg ≤ n ∧ jj = .int .i64 gg ∧ m.Perm cur ∧ Almost m gg n ∧ OwnI w.heap.size wq (.slice (some ⟨g, 0, none⟩) cur.length co) m ∧ Below w.heap.size w wq)
          case atStart => exact ⟨m, Nat.le_refl _, rfl, HP.out, almost_start HU.out, HO2.out, hb2⟩
          case round =>
            obtain ⟨m2, hj, rfl, hp2, hal, ho2, hb3⟩ := hrel
            have HP2 := Lib.hid hp2
            have hml2 : m2.length = cur.length := hp2.length_eq
            have HML2 := Lib.hid hml2
            have HAL := Lib.hid hal
            clear hp2 hal HO2 hb2
            by_cases hj0 : gk = 0
            · have HJ0 := Lib.hid hj0
              have hg0 : ¬ (0 : Int) < (gk : Int) := by omega
              have hd : decide ((0 : Int) < (gk : Int)) = false := by simpa using hg0
              have hd2 : decide (0 < gk) = false := by simp; omega
              clear hj0 hml2 hg0
              go_wp2_with fail
              go_quiet (fail)
              go_wp2_with fail
              go_roundg (cur.length - (n + 1))
              case measure => have := HGK.out; omega
              case rel => exact ⟨n + 1, m2, by omega, by omega, rfl, by go_num, HP2.out, almost_end HAL.out (.inl HJ0.out), ho2, drewN_below hb3 _⟩
            · obtain ⟨j, rfl⟩ : ∃ j, gk = j + 1 := ⟨gk - 1, by omega⟩
              have hj1 : j + 1 < m2.length := by omega
              have hx1 : m2[j + 1]? = some (m2.getD (j + 1) 0) := getD_eq hj1 0
              have hx0 : m2[j]? = some (m2.getD j 0) := getD_eq (by omega) 0
              have q0 := ho2.cellAt (by omega) ei_len hx0 (t := 0) (by omega) rfl
              have q1 := ho2.cellAt (by omega) ei_len hx1 (t := 0) (by omega) rfl
              simp only [Nat.mul_one, Nat.add_zero] at q0 q1
              have HX0 := Lib.hid hx0
              have HX1 := Lib.hid hx1
              clear hx0 hx1 hj0 hml2
              generalize hA : m2.getD j 0 = A at q0 HX0
              generalize hC : m2.getD (j + 1) 0 = C at q1 HX1
              have HA := Lib.hid hA
              have HC := Lib.hid hC
              obtain ⟨qa, qf⟩ := q0
              obtain ⟨qc, qg⟩ := q1
              have hO2 := Lib.hid ho2
              clear hA hC ho2
              have i1 : (0 : Int) < (j : Int) + 1 := by omega
              cases hq : decide (C < A)
              · go_wp2_with fail
                go_quiet (fail)
                have hq' : A ≤ C := by simpa using hq
                clear hq
                go_wp2_with fail
                go_roundg (cur.length - (n + 1))
                case measure => have := HGK.out; omega
                case rel => exact ⟨n + 1, m2, by omega, by omega, rfl, by go_num, HP2.out, almost_end HAL.out (.inr (by rw [Nat.add_sub_cancel, HA.out, HC.out]; exact hq')), hO2.out, drewN_below hb3 _⟩
              · have hq' : C < A := by simpa using hq
                clear hq
                go_wp2_with fail
                go_quiet (fail)
                go_wp2_with fail
                go_region
                all_goals go_wp2_with fail
                go_roundg j
                case measure => omega
                case rel =>
                  have hsw : swap m2 j = (m2.set j C).set (j + 1) A := by rw [swap, HA.out, HC.out]
                  refine ⟨swap m2 j, by omega, rfl, (swap_perm m2 j hj1).trans HP2.out, almost_swap HAL.out (by have := HML2.out; omega) (by omega) (by rw [HA.out, HC.out]; exact hq'), ?_, ((drewN_below hb3 _).setCell hBg _).setCell hBg _⟩
                  rw [hsw]
                  exact own_set (own_set (hO2.out.drewN _) (by have := HML2.out; omega) (by omega) C) (by have := HML2.out; simp; omega) (by simp; omega) A
        · obtain rfl : n = cur.length := by omega
          go_wp2_with fail
          go_ret
          have h1 := HU.out
          rw [← HML.out] at h1
          exact ⟨_, m, rfl, HCR.out ▸ HP.out, upto_all h1, HO2.out, hb2⟩
end Go.Proofs.YtooockbfagkknaaGreatDoor.cls
/- spoorref7.Make and Not: between two marks. -/
namespace Go.Proofs.YtooockbfagkknaaGreatDoor.cls
open Go.RowKit Go.Proofs.YtooockbfagkknaaGreatDoor.sl
def condB (c : Int → Bool) (m : List Int) (k : Nat) : Bool := decide (m.getD k 0 < m.getD (k + 1) 0) && (decide (m.getD k 0 < 55296) || decide (57343 < m.getD k 0)) && c (m.getD k 0)
def refStep (c : Int → Bool) (m : List Int) (out : List Rg) (k : Nat) : List Rg := if condB c m k then pieceF out (m.getD k 0) (m.getD (k + 1) 0 - 1) else out
def refF (c : Int → Bool) (m : List Int) : Nat → List Rg
  | 0 => []
  | k + 1 => refStep c m (refF c m k) k
def RefPost (c : Int → Bool) (l : List Rg) (w : World) (e : Ending) (w' : World) : Prop := ∃ v m, e = .returned v ∧ m.Perm (marks0 l) ∧ m.Pairwise (· ≤ ·) ∧ OwnR w.heap.size w' v (refF c m (m.length - 1)) ∧ Below w.heap.size w w'
theorem pieceF_len (l : List Rg) (lo hi : Int) : (pieceF l lo hi).length ≤ l.length + 1 := by
  unfold pieceF
  split
  · split <;> simp
  · simp
theorem refF_len (c : Int → Bool) (m : List Int) (k : Nat) : (refF c m k).length ≤ k := by
  induction k with
  | zero => simp [refF]
  | succ k ih =>
    have := pieceF_len (refF c m k) (m.getD k 0) (m.getD (k + 1) 0 - 1)
    simp only [refF, refStep]
    split <;> omega
theorem pieceF_bd {l : List Rg} {lo hi : Int} (h : ∀ r ∈ l, -10 ≤ r.2 ∧ r.2 ≤ 1114111) (hh : -10 ≤ hi ∧ hi ≤ 1114111) : ∀ r ∈ pieceF l lo hi, -10 ≤ r.2 ∧ r.2 ≤ 1114111 := by
  intro r hr
  unfold pieceF at hr
  split at hr
  · split at hr
    · rcases List.mem_append.1 hr with hr | hr
      · exact h r ((List.dropLast_sublist l).subset hr)
      · simp at hr; subst hr; exact hh
    · rcases List.mem_append.1 hr with hr | hr
      · exact h r hr
      · simp at hr; subst hr; exact hh
  · simp at hr; subst hr; exact hh
theorem refF_bd {c : Int → Bool} {m : List Int} (hm : ∀ x ∈ m, 0 ≤ x ∧ x ≤ 1114112) : ∀ k, k + 1 ≤ m.length → ∀ r ∈ refF c m k, -10 ≤ r.2 ∧ r.2 ≤ 1114111 := by
  intro k
  induction k with
  | zero => intro _ r hr; simp [refF] at hr
  | succ k ih =>
    intro hk
    simp only [refF, refStep]
    split
    · have hx : m.getD (k + 1) 0 ∈ m := List.mem_of_getElem? (getD_eq (show k + 1 < m.length by omega) 0)
      have := hm _ hx
      exact pieceF_bd (ih (by omega)) (by omega)
    · exact ih (by omega)
theorem marks_bd {l : List Rg} : ∀ x ∈ marks0 l, 0 ≤ x ∧ x ≤ 1114112 := by
  intro x hx
  simp only [marks0, List.mem_append, List.mem_flatMap] at hx
  rcases hx with hx | ⟨y, _, hx⟩
  · simp at hx; omega
  · unfold markF at hx
    rcases List.mem_append.1 hx with hx | hx
    · split at hx
      · rename_i h; simp [m1] at h; simp at hx; omega
      · simp at hx
    · split at hx
      · rename_i h; simp [m2] at h; simp at hx; omega
      · simp at hx

set_option maxHeartbeats 4000000 in
set_option maxRecDepth 100000 in
theorem refMake (a : Option Addr) (l : List Rg) (cap : Nat) (w : World) (h : Rd er w a l cap) (hl : l.length ≤ 2000000) :
    Calls Tryz.prog 73 #[.slice a l.length cap] w (RefPost (fun r => hasB l r) l w) := by
  have c1 := Lib.hid (marks a l cap w h hl)
  have H := Lib.hid h
  clear h
  go_enter Tryz.func73, Tryz.ntmps73
  go_wp2_with fail
  refine c1.out.mono ?_
  rintro e w1 ⟨v1, m, rfl, hp, hpw, o1, b1⟩
  clear c1
  have hs1 := b1.size
  have hml : 4 ≤ m.length ∧ m.length ≤ 4000100 := by
    have h1 := hp.length_eq
    have h2 := flat_len_le markF 2 markF_len l
    simp only [marks0, List.length_append, List.length_cons, List.length_nil] at h1
    omega
  obtain ⟨hml1, hml2⟩ := hml
  have hmb : ∀ x ∈ m, 0 ≤ x ∧ x ≤ 1114112 := fun x hx => marks_bd x (hp.mem_iff.1 hx)
  have HMB := Lib.hid hmb
  have HP := Lib.hid hp
  have HPW := Lib.hid hpw
  obtain ⟨a1, cap1, rfl, rd1, hge⟩ := o1.rd
  have hm1 := rd1.max
  have hle1 := rd1.le
  unfold maxLen at hm1
  have RD := Lib.hid rd1
  clear rd1 hge o1 hp hpw hmb
  go_wp2_with fail
  go_loopg [4, 5] (m.length - 1) (fun g v i wr => ∃ k : Nat, k + 1 ≤ m.length ∧ g = m.length - 1 - k ∧ i = .int .i64 k ∧ OwnR w1.heap.size wr v (refF (fun r => hasB l r) m k) ∧ Below w1.heap.size w1 wr)
  case atStart => exact ⟨0, by omega, rfl, rfl, Own.nil _ _ _ _ _, Below.refl _ _⟩
  case round =>
    obtain ⟨k, hk, rfl, rfl, ho, hb⟩ := hrel
    have hs2 := hb.size
    by_cases hlt : k + 1 < m.length
    · have hx0 : m[k]? = some (m.getD k 0) := getD_eq (by omega) 0
      have hx1 : m[k + 1]? = some (m.getD (k + 1) 0) := getD_eq hlt 0
      have hr0 := HMB.out _ (List.mem_of_getElem? hx0)
      have hr1 := HMB.out _ (List.mem_of_getElem? hx1)
      obtain ⟨b, off, rfl, hbl, q0⟩ := (RD.out.kept hb).cells ei_len hx0
      obtain ⟨b', off', e', _, q1⟩ := (RD.out.kept hb).cells ei_len hx1
      cases e'
      have p0 := q0 0 _ (by omega) rfl
      have p1 := q1 0 _ (by omega) rfl
      simp only [Nat.mul_one, Nat.add_zero] at p0 p1
      clear q0 q1
      have hw : Below w.heap.size w wr := b1.trans (hb.mono hs1)
      have hst : refF (fun r => hasB l r) m (k + 1) = refStep (fun r => hasB l r) m (refF (fun r => hasB l r) m k) k := rfl
      have hcd : condB (fun r => hasB l r) m k = (decide (m.getD k 0 < m.getD (k + 1) 0) && (decide (m.getD k 0 < 55296) || decide (57343 < m.getD k 0)) && hasB l (m.getD k 0)) := rfl
      have hfb := refF_bd (c := (fun r => hasB l r)) HMB.out k (by omega)
      have hfl := refF_len (fun r => hasB l r) m k
      rw [refStep, hcd] at hst
      generalize hA : m.getD k 0 = A at *
      generalize hC : m.getD (k + 1) 0 = C at *
      obtain ⟨hA0, hA1⟩ := hr0
      obtain ⟨hC0, hC1⟩ := hr1
      have HST := Lib.hid hst
      have HFB := Lib.hid hfb
      have HA := Lib.hid hA
      have HC := Lib.hid hC
      generalize refF (fun r => hasB l r) m k = out at ho hfl HFB HST
      obtain ⟨cb, hcb⟩ : ∃ cb, (decide (A < C) && (decide (A < 55296) || decide (57343 < A)) && hasB l A) = cb := ⟨_, rfl⟩
      have HCB := Lib.hid hcb
      clear hst hfb hx0 hx1 hcd hcb hA hC
      have ik : (k : Int) + 1 < (m.length : Int) := by omega
      have ik0 : (k : Int) < (m.length : Int) := by omega
      have ik1 : (k : Int) + 1 ≤ 9223372036854775807 := by omega
      go_upto_region 6 with (fail)
      go_cut [46] (fun s wx => s = .bool cb ∧ ∃ nq, wx = wr.drewN nq)
      case first =>
        by_cases hv : A < 55296
        · have hv2 : decide (A < 55296) = true := by simpa using hv
          refine wp_region_quiet_lit (by kernel_rfl) (by kernel_rfl) ?_
          repeat (any_goals (first | go_big_quiet_step ((go_at_call 64; exact Calls.quiet_of_same (refHas a l cap A _ (Rd.drewN' (H.out.kept hw) _)))) | quiet_step ((go_at_call 64; exact Calls.quiet_of_same (refHas a l cap A _ (Rd.drewN' (H.out.kept hw) _)))) | (refine wpQuiet_step (fun K hK => ?_); go_simp; split <;> (refine hK _ ?_; clear hK K))))
          all_goals (refine wpQuiet_nil ?_; intro _ hw'; obtain ⟨nq, hw''⟩ := hw'; subst hw'')
          all_goals go_wp2_with fail
          all_goals go_meet
          all_goals go_light
          all_goals (refine ⟨congrArg Value.bool ?_, nq, rfl⟩; rw [← HCB.out]; simp [*]; try (intros; exfalso; omega))
        · have hv2 : decide (A < 55296) = false := by simpa using hv
          refine wp_region_quiet_lit (by kernel_rfl) (by kernel_rfl) ?_
          repeat (any_goals (first | go_big_quiet_step ((go_at_call 64; exact Calls.quiet_of_same (refHas a l cap A _ (Rd.drewN' (H.out.kept hw) _)))) | quiet_step ((go_at_call 64; exact Calls.quiet_of_same (refHas a l cap A _ (Rd.drewN' (H.out.kept hw) _)))) | (refine wpQuiet_step (fun K hK => ?_); go_simp; split <;> (refine hK _ ?_; clear hK K))))
          all_goals (refine wpQuiet_nil ?_; intro _ hw'; obtain ⟨nq, hw''⟩ := hw'; subst hw'')
          all_goals go_wp2_with fail
          all_goals go_meet
          all_goals go_light
          all_goals (refine ⟨congrArg Value.bool ?_, nq, rfl⟩; rw [← HCB.out]; simp [*]; try (intros; exfalso; omega))
      case rest =>
        obtain ⟨rfl, nq, rfl⟩ := hcut
        cases cb
        · go_wp2_with fail
          go_roundg (m.length - 1 - (k + 1))
          case measure => omega
          case rel =>
            refine ⟨k + 1, by omega, rfl, by go_num, ?_, drewN_below hb _⟩
            rw [HST.out, HCB.out]
            exact ho.drewN nq
        · have p0' : (wr.drewN nq).cell? ⟨b, off + k, none⟩ = some (.int .i32 A) := by simpa using p0
          have p1' : (wr.drewN nq).cell? ⟨b, off + (k + 1), none⟩ = some (.int .i32 C) := by simpa using p1
          have ho' := ho.drewN nq
          have hb' := drewN_below hb nq
          have hs2' := hb'.size
          clear p0 p1 ho hb hs2 hw hbl
          generalize wr.drewN nq = wd at p0' p1' ho' hb' hs2'
          go_wp2_with fail
          have s1 : IntKind.i64.wrap ((k : Int) + 1) = (k : Int) + 1 := IntWalk.i64_in _ (by omega)
          have s2 : IntKind.i32.wrap (C - 1) = C - 1 := IntWalk.i32_in _ (by omega)
          have s3 : ((k : Int) + 1).toNat = k + 1 := by omega
          have s4 : (0 : Int) ≤ (k : Int) + 1 := by omega
          go_still_tail 11, (by kernel_rfl)
          change wpList _ _ _ _ _ wd.drew
          have ho2 : OwnR w1.heap.size wd.drew u4 out := ho'
          have hb2 : Below w1.heap.size w1 wd.drew := hb'.drew
          have hs3 : w1.heap.size ≤ wd.drew.heap.size := hs2'
          clear s1 s2 s3 s4 ho' hb' hs2' p0' p1'
          generalize wd.drew = w2 at ho2 hb2 hs3
          have cp := Lib.hid (piece A (C - 1) ho2 HFB.out (by omega) hs3)
          go_wp2_with (refine cp.out.mono ?_; rintro e w3 ⟨v3, rfl, o3, b3⟩)
          go_roundg (m.length - 1 - (k + 1))
          case measure => omega
          case rel =>
            refine ⟨k + 1, by omega, rfl, by go_num, ?_, hb2.trans b3⟩
            rw [HST.out, HCB.out]
            exact o3
    · obtain rfl : k = m.length - 1 := by omega
      have ik : ¬ ((m.length - 1 : Nat) : Int) + 1 < (m.length : Int) := by omega
      go_wp2_with fail
      go_ret
      exact ⟨_, m, rfl, HP.out, HPW.out, ho.mono hs1, b1.trans (hb.mono hs1)⟩

set_option maxHeartbeats 4000000 in
set_option maxRecDepth 100000 in
theorem refNot (a : Option Addr) (l : List Rg) (cap : Nat) (w : World) (h : Rd er w a l cap) (hl : l.length ≤ 2000000) :
    Calls Tryz.prog 43 #[.slice a l.length cap] w (RefPost (fun r => !hasB l r) l w) := by
  have c1 := Lib.hid (marks a l cap w h hl)
  have H := Lib.hid h
  clear h
  go_enter Tryz.func43, Tryz.ntmps43
  go_wp2_with fail
  refine c1.out.mono ?_
  rintro e w1 ⟨v1, m, rfl, hp, hpw, o1, b1⟩
  clear c1
  have hs1 := b1.size
  have hml : 4 ≤ m.length ∧ m.length ≤ 4000100 := by
    have h1 := hp.length_eq
    have h2 := flat_len_le markF 2 markF_len l
    simp only [marks0, List.length_append, List.length_cons, List.length_nil] at h1
    omega
  obtain ⟨hml1, hml2⟩ := hml
  have hmb : ∀ x ∈ m, 0 ≤ x ∧ x ≤ 1114112 := fun x hx => marks_bd x (hp.mem_iff.1 hx)
  have HMB := Lib.hid hmb
  have HP := Lib.hid hp
  have HPW := Lib.hid hpw
  obtain ⟨a1, cap1, rfl, rd1, hge⟩ := o1.rd
  have hm1 := rd1.max
  have hle1 := rd1.le
  unfold maxLen at hm1
  have RD := Lib.hid rd1
  clear rd1 hge o1 hp hpw hmb
  go_wp2_with fail
  go_loopg [4, 5] (m.length - 1) (fun g v i wr => ∃ k : Nat, k + 1 ≤ m.length ∧ g = m.length - 1 - k ∧ i = .int .i64 k ∧ OwnR w1.heap.size wr v (refF (fun r => !hasB l r) m k) ∧ Below w1.heap.size w1 wr)
  case atStart => exact ⟨0, by omega, rfl, rfl, Own.nil _ _ _ _ _, Below.refl _ _⟩
  case round =>
    obtain ⟨k, hk, rfl, rfl, ho, hb⟩ := hrel
    have hs2 := hb.size
    by_cases hlt : k + 1 < m.length
    · have hx0 : m[k]? = some (m.getD k 0) := getD_eq (by omega) 0
      have hx1 : m[k + 1]? = some (m.getD (k + 1) 0) := getD_eq hlt 0
      have hr0 := HMB.out _ (List.mem_of_getElem? hx0)
      have hr1 := HMB.out _ (List.mem_of_getElem? hx1)
      obtain ⟨b, off, rfl, hbl, q0⟩ := (RD.out.kept hb).cells ei_len hx0
      obtain ⟨b', off', e', _, q1⟩ := (RD.out.kept hb).cells ei_len hx1
      cases e'
      have p0 := q0 0 _ (by omega) rfl
      have p1 := q1 0 _ (by omega) rfl
      simp only [Nat.mul_one, Nat.add_zero] at p0 p1
      clear q0 q1
      have hw : Below w.heap.size w wr := b1.trans (hb.mono hs1)
      have hst : refF (fun r => !hasB l r) m (k + 1) = refStep (fun r => !hasB l r) m (refF (fun r => !hasB l r) m k) k := rfl
      have hcd : condB (fun r => !hasB l r) m k = (decide (m.getD k 0 < m.getD (k + 1) 0) && (decide (m.getD k 0 < 55296) || decide (57343 < m.getD k 0)) && !hasB l (m.getD k 0)) := rfl
      have hfb := refF_bd (c := (fun r => !hasB l r)) HMB.out k (by omega)
      have hfl := refF_len (fun r => !hasB l r) m k
      rw [refStep, hcd] at hst
      generalize hA : m.getD k 0 = A at *
      generalize hC : m.getD (k + 1) 0 = C at *
      obtain ⟨hA0, hA1⟩ := hr0
      obtain ⟨hC0, hC1⟩ := hr1
      have HST := Lib.hid hst
      have HFB := Lib.hid hfb
      have HA := Lib.hid hA
      have HC := Lib.hid hC
      generalize refF (fun r => !hasB l r) m k = out at ho hfl HFB HST
      obtain ⟨cb, hcb⟩ : ∃ cb, (decide (A < C) && (decide (A < 55296) || decide (57343 < A)) && !hasB l A) = cb := ⟨_, rfl⟩
      have HCB := Lib.hid hcb
      clear hst hfb hx0 hx1 hcd hcb hA hC
      have ik : (k : Int) + 1 < (m.length : Int) := by omega
      have ik0 : (k : Int) < (m.length : Int) := by omega
      have ik1 : (k : Int) + 1 ≤ 9223372036854775807 := by omega
      go_upto_region 6 with (fail)
      go_cut [47] (fun s wx => s = .bool cb ∧ ∃ nq, wx = wr.drewN nq)
      case first =>
        by_cases hv : A < 55296
        · have hv2 : decide (A < 55296) = true := by simpa using hv
          refine wp_region_quiet_lit (by kernel_rfl) (by kernel_rfl) ?_
          repeat (any_goals (first | go_big_quiet_step ((go_at_call 64; exact Calls.quiet_of_same (refHas a l cap A _ (Rd.drewN' (H.out.kept hw) _)))) | quiet_step ((go_at_call 64; exact Calls.quiet_of_same (refHas a l cap A _ (Rd.drewN' (H.out.kept hw) _)))) | (refine wpQuiet_step (fun K hK => ?_); go_simp; split <;> (refine hK _ ?_; clear hK K))))
          all_goals (refine wpQuiet_nil ?_; intro _ hw'; obtain ⟨nq, hw''⟩ := hw'; subst hw'')
          all_goals go_wp2_with fail
          all_goals go_meet
          all_goals go_light
          all_goals (refine ⟨congrArg Value.bool ?_, nq, rfl⟩; rw [← HCB.out]; simp [*]; try (intros; exfalso; omega))
        · have hv2 : decide (A < 55296) = false := by simpa using hv
          refine wp_region_quiet_lit (by kernel_rfl) (by kernel_rfl) ?_
          repeat (any_goals (first | go_big_quiet_step ((go_at_call 64; exact Calls.quiet_of_same (refHas a l cap A _ (Rd.drewN' (H.out.kept hw) _)))) | quiet_step ((go_at_call 64; exact Calls.quiet_of_same (refHas a l cap A _ (Rd.drewN' (H.out.kept hw) _)))) | (refine wpQuiet_step (fun K hK => ?_); go_simp; split <;> (refine hK _ ?_; clear hK K))))
          all_goals (refine wpQuiet_nil ?_; intro _ hw'; obtain ⟨nq, hw''⟩ := hw'; subst hw'')
          all_goals go_wp2_with fail
          all_goals go_meet
          all_goals go_light
          all_goals (refine ⟨congrArg Value.bool ?_, nq, rfl⟩; rw [← HCB.out]; simp [*]; try (intros; exfalso; omega))
      case rest =>
        obtain ⟨rfl, nq, rfl⟩ := hcut
        cases cb
        · go_wp2_with fail
          go_roundg (m.length - 1 - (k + 1))
          case measure => omega
          case rel =>
            refine ⟨k + 1, by omega, rfl, by go_num, ?_, drewN_below hb _⟩
            rw [HST.out, HCB.out]
            exact ho.drewN nq
        · have p0' : (wr.drewN nq).cell? ⟨b, off + k, none⟩ = some (.int .i32 A) := by simpa using p0
          have p1' : (wr.drewN nq).cell? ⟨b, off + (k + 1), none⟩ = some (.int .i32 C) := by simpa using p1
          have ho' := ho.drewN nq
          have hb' := drewN_below hb nq
          have hs2' := hb'.size
          clear p0 p1 ho hb hs2 hw hbl
          generalize wr.drewN nq = wd at p0' p1' ho' hb' hs2'
          go_wp2_with fail
          have s1 : IntKind.i64.wrap ((k : Int) + 1) = (k : Int) + 1 := IntWalk.i64_in _ (by omega)
          have s2 : IntKind.i32.wrap (C - 1) = C - 1 := IntWalk.i32_in _ (by omega)
          have s3 : ((k : Int) + 1).toNat = k + 1 := by omega
          have s4 : (0 : Int) ≤ (k : Int) + 1 := by omega
          go_still_tail 11, (by kernel_rfl)
          change wpList _ _ _ _ _ wd.drew
          have ho2 : OwnR w1.heap.size wd.drew u4 out := ho'
          have hb2 : Below w1.heap.size w1 wd.drew := hb'.drew
          have hs3 : w1.heap.size ≤ wd.drew.heap.size := hs2'
          clear s1 s2 s3 s4 ho' hb' hs2' p0' p1'
          generalize wd.drew = w2 at ho2 hb2 hs3
          have cp := Lib.hid (piece A (C - 1) ho2 HFB.out (by omega) hs3)
          go_wp2_with (refine cp.out.mono ?_; rintro e w3 ⟨v3, rfl, o3, b3⟩)
          go_roundg (m.length - 1 - (k + 1))
          case measure => omega
          case rel =>
            refine ⟨k + 1, by omega, rfl, by go_num, ?_, hb2.trans b3⟩
            rw [HST.out, HCB.out]
            exact o3
    · obtain rfl : k = m.length - 1 := by omega
      have ik : ¬ ((m.length - 1 : Nat) : Int) + 1 < (m.length : Int) := by omega
      go_wp2_with fail
      go_ret
      exact ⟨_, m, rfl, HP.out, HPW.out, ho.mono hs1, b1.trans (hb.mono hs1)⟩
end Go.Proofs.YtooockbfagkknaaGreatDoor.cls
/- Between two marks nothing turns: what spoorref7.Make and Not answer, plainly. -/
namespace Go.Proofs.YtooockbfagkknaaGreatDoor.cls
open Go.RowKit Go.Proofs.YtooockbfagkknaaGreatDoor.sl
theorem adj {m : List Int} (h : m.Pairwise (· ≤ ·)) {k : Nat} (hk : k + 1 < m.length) {y : Int} (hy : y ∈ m) : y ≤ m.getD k 0 ∨ m.getD (k + 1) 0 ≤ y := by
  obtain ⟨i, hi, rfl⟩ := List.getElem_of_mem hy
  have pw := List.pairwise_iff_getElem.1 h
  have e1 : m.getD k 0 = m[k] := by simp [List.getD_eq_getElem?_getD, List.getElem?_eq_getElem (show k < m.length by omega)]
  have e2 : m.getD (k + 1) 0 = m[k + 1] := by simp [List.getD_eq_getElem?_getD, List.getElem?_eq_getElem hk]
  rw [e1, e2]
  rcases Nat.lt_trichotomy i k with hlt | rfl | hgt
  · exact .inl (pw i k hi (by omega) hlt)
  · exact .inl (Int.le_refl _)
  · rcases Nat.lt_or_ge (k + 1) i with h2 | h2
    · exact .inr (pw (k + 1) i hk hi h2)
    · obtain rfl : i = k + 1 := by omega
      exact .inr (Int.le_refl _)
theorem pieceF_good {out : List Rg} {lo hi : Int} (h : Good out) (hp : InP (lo, hi)) (hlt : ∀ p ∈ out, p.2 < lo) :
    Good (pieceF out lo hi) ∧ (∀ p ∈ pieceF out lo hi, p.2 ≤ hi) ∧ ∀ r, hasB (pieceF out lo hi) r = (hasB out r || (decide (lo ≤ r) && decide (r ≤ hi))) := by
  unfold InP at hp
  simp only at hp
  rcases List.eq_nil_or_concat out with rfl | ⟨o0, p, rfl⟩
  · refine ⟨⟨fun q hq => ?_, by simp [pieceF]⟩, fun q hq => ?_, fun r => ?_⟩
    · simp [pieceF] at hq; subst hq; exact hp
    · simp [pieceF] at hq; subst hq; exact Int.le_refl _
    · simp [pieceF, hasB]
  · rw [List.concat_eq_append] at *
    have hpf : pieceF (o0 ++ [p]) lo hi = if p.2 + 1 = lo then o0 ++ [(p.1, hi)] else o0 ++ [p] ++ [(lo, hi)] := by simp [pieceF]
    have ip := h.1 p (by simp)
    have hpl := hlt p (by simp)
    have pw := List.pairwise_append.1 h.2
    have hlo : ∀ q ∈ o0, q.2 + 1 < p.1 := fun q hq => pw.2.2 q hq p (by simp)
    unfold InP at ip
    rw [hpf]
    by_cases hq : p.2 + 1 = lo
    · rw [if_pos hq]
      refine ⟨⟨fun q hq' => ?_, ?_⟩, fun q hq' => ?_, fun r => ?_⟩
      · rcases List.mem_append.1 hq' with hq' | hq'
        · exact h.1 q (by simp [hq'])
        · simp at hq'; subst hq'; simp only [InP]; omega
      · refine List.pairwise_append.2 ⟨pw.1, by simp, fun a ha b hb => ?_⟩
        simp at hb; subst hb; exact hlo a ha
      · rcases List.mem_append.1 hq' with hq' | hq'
        · have := hlt q (by simp [hq']); omega
        · simp at hq'; subst hq'; exact Int.le_refl _
      · rw [has_append, has_append, Bool.or_assoc]
        congr 1
        rw [Bool.eq_iff_iff]
        simp [hasB]
        omega
    · rw [if_neg hq]
      refine ⟨⟨fun q hq' => ?_, ?_⟩, fun q hq' => ?_, fun r => ?_⟩
      · rcases List.mem_append.1 hq' with hq' | hq'
        · exact h.1 q hq'
        · simp at hq'; subst hq'; exact hp
      · refine List.pairwise_append.2 ⟨h.2, by simp, fun a ha b hb => ?_⟩
        simp at hb; subst hb
        rcases List.mem_append.1 ha with ha | ha
        · have := hlo a ha; simp only; omega
        · simp at ha; subst ha; simp only; omega
      · rcases List.mem_append.1 hq' with hq' | hq'
        · have := hlt q hq'; omega
        · simp at hq'; subst hq'; exact Int.le_refl _
      · rw [has_append]
        congr 1
        simp [hasB]
/-- Nothing turns between two marks. -/
def Still (c : Int → Bool) (m : List Int) : Prop := ∀ k, k + 1 < m.length → ∀ r, m.getD k 0 ≤ r → r < m.getD (k + 1) 0 → c r = c (m.getD k 0)
theorem still_has {l : List Rg} {m : List Int} (hp : m.Perm (marks0 l)) (hpw : m.Pairwise (· ≤ ·)) : Still (fun r => hasB l r) m := by
  intro k hk r h1 h2
  have b0 := marks_bd _ (hp.mem_iff.1 (List.mem_of_getElem? (getD_eq (show k < m.length by omega) 0)))
  have b1 := marks_bd _ (hp.mem_iff.1 (List.mem_of_getElem? (getD_eq hk 0)))
  have mk : ∀ x ∈ l, ∀ y ∈ markF x, y ≤ m.getD k 0 ∨ m.getD (k + 1) 0 ≤ y := fun x hx y hy =>
    adj hpw hk (hp.mem_iff.2 (by simp only [marks0, List.mem_append, List.mem_flatMap]; exact .inr ⟨x, hx, hy⟩))
  generalize m.getD k 0 = A at *
  generalize m.getD (k + 1) 0 = C at *
  show hasB l r = hasB l A
  rw [Bool.eq_iff_iff, has_iff, has_iff]
  constructor
  · rintro ⟨x, hx, e1, e2⟩
    refine ⟨x, hx, ?_, by omega⟩
    rcases (show A < x.1 ∨ x.1 ≤ A by omega) with hA | hA
    · have hm : m1 x = true := by simp [m1]; omega
      have := mk x hx x.1 (by simp [markF, hm])
      omega
    · exact hA
  · rintro ⟨x, hx, e1, e2⟩
    refine ⟨x, hx, by omega, ?_⟩
    rcases (show x.2 < r ∨ r ≤ x.2 by omega) with hA | hA
    · have hm : m2 x = true := by simp [m2]; omega
      have := mk x hx (x.2 + 1) (by simp [markF, hm])
      omega
    · exact hA
theorem ref_step {c : Int → Bool} {out : List Rg} {A C : Int} (i1 : Good out) (i2 : ∀ p ∈ out, p.2 < A) (i3 : ∀ r, hasB out r = (decide (r < A) && (validB r && c r))) (bA : 0 ≤ A ∧ A ≤ 1114112) (bC : 0 ≤ C ∧ C ≤ 1114112) (hle : A ≤ C)
    (a1 : 55296 ≤ A ∨ C ≤ 55296) (a2 : 57344 ≤ A ∨ C ≤ 57344) (hcc : ∀ r, A ≤ r → r < C → c r = c A) :
    Good (if (decide (A < C) && (decide (A < 55296) || decide (57343 < A)) && c A) = true then pieceF out A (C - 1) else out) ∧
    (∀ p ∈ (if (decide (A < C) && (decide (A < 55296) || decide (57343 < A)) && c A) = true then pieceF out A (C - 1) else out), p.2 < C) ∧
    ∀ r, hasB (if (decide (A < C) && (decide (A < 55296) || decide (57343 < A)) && c A) = true then pieceF out A (C - 1) else out) r = (decide (r < C) && (validB r && c r)) := by
  by_cases hcond : (decide (A < C) && (decide (A < 55296) || decide (57343 < A)) && c A) = true
  · rw [if_pos hcond]
    simp only [Bool.and_eq_true, Bool.or_eq_true, decide_eq_true_eq] at hcond
    obtain ⟨⟨h1, h2⟩, h3⟩ := hcond
    obtain ⟨g1, g2, g3⟩ := pieceF_good (lo := A) (hi := C - 1) i1 (by simp only [InP]; omega) i2
    refine ⟨g1, fun p hp' => by have := g2 p hp'; omega, fun r => ?_⟩
    rw [g3, i3]
    by_cases hr : A ≤ r ∧ r < C
    · have hv : validB r = true := (valid_iff r).2 (by omega)
      rw [hcc r hr.1 hr.2, h3, hv]
      rw [Bool.eq_iff_iff]
      simp
      omega
    · have e : (decide (A ≤ r) && decide (r ≤ C - 1)) = false := by simp; omega
      have e2 : decide (r < A) = decide (r < C) := by rw [decide_eq_decide]; omega
      rw [e, e2, Bool.or_false]
  · rw [if_neg hcond]
    refine ⟨i1, fun p hp' => by have := i2 p hp'; omega, fun r => ?_⟩
    rw [i3]
    by_cases hr : A ≤ r ∧ r < C
    · have e : decide (r < A) = false := by simp; omega
      rw [e, Bool.false_and]
      symm
      rw [Bool.and_eq_false_iff]
      right
      rw [hcc r hr.1 hr.2]
      rw [Bool.and_eq_false_iff]
      rcases h3 : c A with _ | _
      · exact .inr rfl
      · left
        rw [h3] at hcond
        simp only [Bool.and_true, Bool.and_eq_true, Bool.or_eq_true, decide_eq_true_eq] at hcond
        rcases hv : validB r with _ | _
        · rfl
        · have := (valid_iff r).1 hv
          omega
    · have e2 : decide (r < A) = decide (r < C) := by rw [decide_eq_decide]; omega
      rw [e2]
theorem refF_good {c : Int → Bool} {l : List Rg} {m : List Int} (hp : m.Perm (marks0 l)) (hpw : m.Pairwise (· ≤ ·)) (hc : Still c m) :
    ∀ k, k + 1 ≤ m.length → Good (refF c m k) ∧ (∀ p ∈ refF c m k, p.2 < m.getD k 0) ∧ ∀ r, hasB (refF c m k) r = (decide (r < m.getD k 0) && (validB r && c r)) := by
  have mem : ∀ y ∈ [0, 55296, 57344, 1114112], (y : Int) ∈ m := fun y hy => hp.mem_iff.2 (by simp only [marks0, List.mem_append]; exact .inl hy)
  have bd : ∀ k, k < m.length → 0 ≤ m.getD k 0 ∧ m.getD k 0 ≤ 1114112 := fun k hk => marks_bd _ (hp.mem_iff.1 (List.mem_of_getElem? (getD_eq hk 0)))
  intro k
  induction k with
  | zero =>
    intro hk
    have h0 : m.getD 0 0 = 0 := by
      have b := bd 0 hk
      obtain ⟨i, hi, he⟩ := List.getElem_of_mem (mem 0 (by simp))
      have pw := List.pairwise_iff_getElem.1 hpw
      rcases Nat.eq_zero_or_pos i with rfl | hpos
      · simpa [List.getD_eq_getElem?_getD, List.getElem?_eq_getElem hi] using he
      · have := pw 0 i hk hi hpos
        have e1 : m.getD 0 0 = m[0] := by simp [List.getD_eq_getElem?_getD, List.getElem?_eq_getElem (show 0 < m.length by omega)]
        rw [he] at this
        omega
    refine ⟨⟨by simp [refF], by simp [refF]⟩, by simp [refF], fun r => ?_⟩
    rw [h0]
    rcases hv : validB r with _ | _
    · simp [refF, hasB]
    · have := (valid_iff r).1 hv
      simp [refF, hasB]
      omega
  | succ k ih =>
    intro hk
    obtain ⟨i1, i2, i3⟩ := ih (by omega)
    have bA := bd k (by omega)
    have bC := bd (k + 1) (by omega)
    have hle : m.getD k 0 ≤ m.getD (k + 1) 0 := by
      have pw := List.pairwise_iff_getElem.1 hpw k (k + 1) (by omega) (by omega) (by omega)
      simpa [List.getD_eq_getElem?_getD, List.getElem?_eq_getElem (show k < m.length by omega), List.getElem?_eq_getElem (show k + 1 < m.length by omega)] using pw
    have a1 := adj hpw (show k + 1 < m.length by omega) (mem 55296 (by simp))
    have a2 := adj hpw (show k + 1 < m.length by omega) (mem 57344 (by simp))
    have hcc := hc k (by omega)
    exact ref_step i1 i2 i3 bA bC hle a1 a2 hcc
theorem refF_end {c : Int → Bool} {l : List Rg} {m : List Int} (hp : m.Perm (marks0 l)) (hpw : m.Pairwise (· ≤ ·)) (hc : Still c m) :
    Good (refF c m (m.length - 1)) ∧ ∀ r, hasB (refF c m (m.length - 1)) r = (validB r && c r) := by
  have hl : 1 ≤ m.length := by have := hp.length_eq; simp [marks0] at this; omega
  obtain ⟨g1, _, g3⟩ := refF_good hp hpw hc (m.length - 1) (by omega)
  have mem : (1114112 : Int) ∈ m := hp.mem_iff.2 (by simp [marks0])
  have hlast : m.getD (m.length - 1) 0 = 1114112 := by
    have b := marks_bd _ (hp.mem_iff.1 (List.mem_of_getElem? (getD_eq (show m.length - 1 < m.length by omega) 0)))
    obtain ⟨i, hi, he⟩ := List.getElem_of_mem mem
    have pw := List.pairwise_iff_getElem.1 hpw
    have e1 : m.getD (m.length - 1) 0 = m[m.length - 1] := by simp [List.getD_eq_getElem?_getD, List.getElem?_eq_getElem (show m.length - 1 < m.length by omega)]
    rcases Nat.lt_or_ge i (m.length - 1) with hlt | hge
    · have := pw i (m.length - 1) hi (by omega) hlt
      rw [he] at this
      omega
    · have : i = m.length - 1 := by omega
      subst this
      rw [e1, he]
  refine ⟨g1, fun r => ?_⟩
  rw [g3, hlast]
  rcases hv : validB r with _ | _
  · simp
  · have := (valid_iff r).1 hv
    simp
    omega
theorem refMakeC (a : Option Addr) (l : List Rg) (cap : Nat) (w : World) (h : Rd er w a l cap) (hl : l.length ≤ 2000000) :
    Calls Tryz.prog 73 #[.slice a l.length cap] w fun e w' => ∃ v, e = .returned v ∧ OwnR w.heap.size w' v (makeF l) ∧ Below w.heap.size w w' := by
  refine (refMake a l cap w h hl).mono ?_
  rintro e w' ⟨v, m, rfl, hp, hpw, ho, hb⟩
  obtain ⟨g, hh⟩ := refF_end hp hpw (still_has hp hpw)
  have hm := makeF_makes l
  have e : refF (fun r => hasB l r) m (m.length - 1) = makeF l := good_uniq g hm.1 fun r => by rw [hh, hm.2.1]
  rw [e] at ho
  exact ⟨v, rfl, ho, hb⟩
theorem refNotC (a : Option Addr) (l n : List Rg) (cap : Nat) (w : World) (h : Rd er w a l cap) (hl : l.length ≤ 2000000) (hn : Nots l n) :
    Calls Tryz.prog 43 #[.slice a l.length cap] w fun e w' => ∃ v, e = .returned v ∧ OwnR w.heap.size w' v n ∧ Below w.heap.size w w' := by
  refine (refNot a l cap w h hl).mono ?_
  rintro e w' ⟨v, m, rfl, hp, hpw, ho, hb⟩
  have hs := still_has hp hpw
  obtain ⟨g, hh⟩ := refF_end (c := fun r => !hasB l r) hp hpw (fun k hk r h1 h2 => by have := hs k hk r h1 h2; simp only at this; simp only [this])
  have e : refF (fun r => !hasB l r) m (m.length - 1) = n := good_uniq g hn.1 fun r => by rw [hh, hn.2.1]
  rw [e] at ho
  exact ⟨v, rfl, ho, hb⟩
end Go.Proofs.YtooockbfagkknaaGreatDoor.cls
