/- spoorref7.marks. -/
import Derived.Test.YtocbpbeklbhjkaaRef1
import Derived.Test.YtocbpbeklbhjkaaInsert
import Derived.RegionTactic
import Derived.Deep.Light
namespace Go.Proofs.Ytocbpbeklbhjkaa.cls
open Go.RowKit Go.Proofs.Ytocbpbeklbhjkaa.sl
def ei (r : Int) : List Value := [.int .i32 r]
theorem ei_len (r : Int) : (ei r).length = 1 := rfl
theorem ei_one (r : Int) : ∀ u ∈ ei r, u.oneCell' = true := by
  intro u hu
  simp [ei] at hu
  subst hu
  rfl
theorem elem_i32 : ElemTy Try.prog 39 21 1 4 := ElemTy.mk' (z := .int .i32 0) Try.underlying39 (by kernel_rfl) rfl (by decide)
abbrev OwnI (B : Nat) (w : World) (v : Value) (l : List Int) : Prop := Own ei 1 21 B w v l
def m1 (x : Rg) : Bool := decide (x.1 ≤ x.2) && decide (0 ≤ x.1) && decide (x.1 ≤ 1114111)
def m2 (x : Rg) : Bool := decide (x.1 ≤ x.2) && decide (0 ≤ x.2) && decide (x.2 < 1114111)
def markF (x : Rg) : List Int := (if m1 x then [x.1] else []) ++ (if m2 x then [x.2 + 1] else [])
def marks0 (l : List Rg) : List Int := [0, 55296, 57344, 1114112] ++ l.flatMap markF
theorem markF_len (x : Rg) : (markF x).length ≤ 2 := by unfold markF; split <;> split <;> simp
theorem own_set {B : Nat} {w : World} {g n cap : Nat} {m : List Int} (h : OwnI B w (.slice (some ⟨g, 0, none⟩) n cap) m) (hn : n = m.length) {j : Nat} (hj : j < m.length) (y : Int) :
    OwnI B (w.setCell ⟨g, j, none⟩ (.int .i32 y)) (.slice (some ⟨g, 0, none⟩) n cap) (m.set j y) := by
  have := h.store hn ei_len (i := j) (t := 0) (x := m.getD j 0) (y := y) (u := .int .i32 y) (getD_eq hj 0) (by omega) rfl
  simpa using this
set_option maxHeartbeats 4000000 in
set_option maxRecDepth 100000 in
theorem marks (a : Option Addr) (l : List Rg) (cap : Nat) (w : World) (h : Rd er w a l cap) (hl : l.length ≤ 100000) :
    Calls Try.prog 27 #[.slice a l.length cap] w fun e w' => ∃ v m, e = .returned v ∧ m.Perm (marks0 l) ∧ m.Pairwise (· ≤ ·) ∧ OwnI w.heap.size w' v m ∧ Below w.heap.size w w' := by
  have hm := h.max
  have hle := h.le
  unfold maxLen at hm
  have H := Lib.hid h
  clear h
  go_enter Try.func27, Try.ntmps27
  go_wp2_with fail
  have o0 : OwnI w.heap.size (w.alloc (.cells #[.int .i32 0, .int .i32 55296, .int .i32 57344, .int .i32 1114112] 21)) (.slice (some ⟨w.heap.size, 0, none⟩) 4 4) [0, 55296, 57344, 1114112] := by
    unfold OwnI Own
    exact World.ownsRow_lit w #[.int .i32 0, .int .i32 55296, .int .i32 57344, .int .i32 1114112] 4 (Nat.le_refl _) (by simp [maxLen]) rfl
  have b0 := (Below.refl w.heap.size w).alloc (Nat.le_refl _) (.cells #[.int .i32 0, .int .i32 55296, .int .i32 57344, .int .i32 1114112] 21)
  go_loopg [3, 4] l.length (fun g v i wr => ∃ k : Nat, k ≤ l.length ∧ g = l.length - k ∧ i = .int .i64 k ∧ OwnI w.heap.size wr v (marks0 (l.take k)) ∧ Below w.heap.size w wr)
  case atStart => exact ⟨0, by omega, rfl, rfl, by simpa [marks0] using o0, b0⟩
  case round =>
    obtain ⟨k, hk, rfl, rfl, ho, hb⟩ := hrel
    clear o0 b0
    have hs := hb.size
    by_cases hlt : k < l.length
    · obtain ⟨x, hx⟩ : ∃ x, l[k]? = some x := ⟨_, List.getElem?_eq_getElem hlt⟩
      obtain ⟨b, off, rfl, hbl, c0, c1⟩ := Rd.pair (H.out.kept hb) hx
      have HX := Lib.hid hx
      clear hx
      have hlen : (marks0 (l.take k)).length ≤ 300000 := by
        have := flat_len_le markF 2 markF_len (l.take k)
        simp [marks0] at *
        omega
      obtain ⟨cur, hcur⟩ : ∃ cur, marks0 (l.take k) = cur := ⟨_, rfl⟩
      rw [hcur] at ho hlen
      have HC := Lib.hid hcur
      clear hcur
      go_upto_region 5 with (fail)
      go_cut [40] (fun s wx => s = .bool (m1 x) ∧ ∃ nq, wx = wr.drewN nq)
      case first =>
        refine wp_region_quiet_lit (by kernel_rfl) (by kernel_rfl) ?_
        repeat (any_goals (first | go_big_quiet_step (fail) | quiet_step (fail) | (refine wpQuiet_step (fun K hK => ?_); go_simp; split <;> (refine hK _ ?_; clear hK K))))
        all_goals (refine wpQuiet_nil ?_; intro _ hw'; obtain ⟨nq, hw''⟩ := hw'; subst hw'')
        all_goals go_wp2_with fail
        all_goals go_meet
        all_goals go_light
        all_goals (refine ⟨congrArg Value.bool ?_, nq, rfl⟩; rw [Bool.eq_iff_iff]; simp [m1]; omega)
      case rest =>
        obtain ⟨rfl, nq, rfl⟩ := hcut
        go_upto_if 40 with (fail)
        go_cut [3] (fun v wx => OwnI w.heap.size wx v (cur ++ (if m1 x then [x.1] else [])) ∧ Below w.heap.size w wx)
        case first =>
          cases e1 : m1 x
          · go_wp2_with fail
            go_meet
            exact ⟨by simpa [e1] using ho.drewN nq, drewN_below hb _⟩
          · go_wp2_with (at_builtin; go_must (refine wpList_app1 elem_i32 rfl rfl rfl rfl (by simp) (ho.drewN _) x.1 rfl ei_len ei_one (by omega) (by omega) (by simpa using hb.size) ?_); intro v1 w1 o1 g1)
            go_meet
            exact ⟨by simpa [e1] using o1, grow_below (drewN_below hb _) (ho.drewN _) g1 (Nat.le_refl _) (by simpa using hb.size)⟩
        case rest =>
          obtain ⟨ho2, hb2⟩ := hcut
          clear ho hb c0 c1
          have hlen2 : (cur ++ (if m1 x then [x.1] else [])).length ≤ 300001 := by split <;> simp <;> omega
          obtain ⟨b3, off3, e3, hbl3, c0, c1⟩ := Rd.pair (H.out.kept hb2) HX.out
          cases e3
          go_upto_region 7 with (fail)
          go_cut [75] (fun s wx => s = .bool (m2 x) ∧ ∃ nq, wx = wc.drewN nq)
          case first =>
            refine wp_region_quiet_lit (by kernel_rfl) (by kernel_rfl) ?_
            repeat (any_goals (first | go_big_quiet_step (fail) | quiet_step (fail) | (refine wpQuiet_step (fun K hK => ?_); go_simp; split <;> (refine hK _ ?_; clear hK K))))
            all_goals (refine wpQuiet_nil ?_; intro _ hw'; obtain ⟨nq, hw''⟩ := hw'; subst hw'')
            all_goals go_wp2_with fail
            all_goals go_meet
            all_goals go_light
            all_goals (refine ⟨congrArg Value.bool ?_, nq, rfl⟩; rw [Bool.eq_iff_iff]; simp [m2]; omega)
          case rest =>
            obtain ⟨rfl, nq, rfl⟩ := hcut
            have e : marks0 (l.take (k + 1)) = cur ++ (if m1 x then [x.1] else []) ++ (if m2 x then [x.2 + 1] else []) := by
              rw [← HC.out]
              simp only [marks0, take_flat _ HX.out, markF, List.append_assoc]
            have E := Lib.hid e
            clear e
            cases e2 : m2 x
            · go_wp2_with fail
              go_roundg (l.length - (k + 1))
              case measure => omega
              case rel =>
                refine ⟨k + 1, by omega, rfl, by go_num, ?_, drewN_below hb2 _⟩
                rw [E.out]
                simpa [e2] using ho2.drewN nq
            · have hx2 : x.2 < 1114111 := by simp [m2] at e2; omega
              have hx3 : 0 ≤ x.2 := by simp [m2] at e2; omega
              go_wp2_with (at_builtin; go_must (refine wpList_app1 elem_i32 rfl rfl rfl rfl (by simp) (ho2.drewN _) (x.2 + 1) rfl ei_len ei_one (by omega) (by omega) (by simpa using hb2.size) ?_); intro v1 w1 o1 g1)
              go_roundg (l.length - (k + 1))
              case measure => omega
              case rel =>
                refine ⟨k + 1, by omega, rfl, by go_num, ?_, grow_below (drewN_below hb2 _) (ho2.drewN _) g1 (Nat.le_refl _) (by simpa using hb2.size)⟩
                rw [E.out]
                simpa [e2] using o1
    · obtain rfl : k = l.length := by omega
      rw [List.take_length] at ho
      have hlen := flat_len_le markF 2 markF_len l
      have hcl : (marks0 l).length = 4 + (l.flatMap markF).length := by simp [marks0]; omega
      obtain ⟨cur, hcr⟩ : ∃ cur, marks0 l = cur := ⟨_, rfl⟩
      rw [hcr] at ho hcl
      have HCR := Lib.hid hcr
      clear hcr
      obtain ⟨g, co, rfl, hBg, hg, hlc, hcm⟩ := ho.form (by intro e; rw [e] at hcl; simp at hcl; omega)
      have hcl1 : 4 ≤ cur.length := by omega
      have hcl2 : cur.length ≤ 300000 := by omega
      unfold maxLen at hcm
      have HO := Lib.hid ho
      clear ho hcl hlen
      go_wp2_with fail
      go_loopg [5, 6] (cur.length - 1) (fun gg i _ wq => ∃ (n : Nat) (m : List Int), 1 ≤ n ∧ n ≤ cur.length ∧ gg = cur.length - n ∧ i = .int .i64 n ∧ m.Perm cur ∧ Upto m n ∧ OwnI w.heap.size wq (.slice (some ⟨g, 0, none⟩) cur.length co) m ∧ Below w.heap.size w wq)
      case atStart => exact ⟨1, cur, by omega, by omega, by omega, rfl, List.Perm.refl _, fun a b h1 h2 => by omega, HO.out, hb⟩
      case round =>
        obtain ⟨n, m, hn1, hn2, hgk, rfl, hp, hu, ho, hb2⟩ := hrel
        have HGK := Lib.hid hgk
        have HP := Lib.hid hp
        have hml : m.length = cur.length := hp.length_eq
        have HML := Lib.hid hml
        have HU := Lib.hid hu
        have HO2 := Lib.hid ho
        clear hgk hp hml hu ho HO hb
        by_cases hlt : n < cur.length
        · go_wp2_with fail
          go_loopg [6] n (fun gg jj wq => ∃ m : List Int, gg ≤ n ∧ jj = .int .i64 gg ∧ m.Perm cur ∧ Almost m gg n ∧ OwnI w.heap.size wq (.slice (some ⟨g, 0, none⟩) cur.length co) m ∧ Below w.heap.size w wq)
          case atStart => exact ⟨m, Nat.le_refl _, rfl, HP.out, almost_start HU.out, HO2.out, hb2⟩
          case round =>
            obtain ⟨m2, hj, rfl, hp2, hal, ho2, hb3⟩ := hrel
            have HP2 := Lib.hid hp2
            have hml2 : m2.length = cur.length := hp2.length_eq
            have HML2 := Lib.hid hml2
            have HAL := Lib.hid hal
            clear hp2 hal HO2 hb2
            by_cases hj0 : gk = 0
            · have HJ0 := Lib.hid hj0
              have hg0 : ¬ (0 : Int) < (gk : Int) := by omega
              have hd : decide ((0 : Int) < (gk : Int)) = false := by simpa using hg0
              have hd2 : decide (0 < gk) = false := by simp; omega
              clear hj0 hml2 hg0
              go_wp2_with fail
              go_quiet (fail)
              go_wp2_with fail
              go_roundg (cur.length - (n + 1))
              case measure => have := HGK.out; omega
              case rel => exact ⟨n + 1, m2, by omega, by omega, rfl, by go_num, HP2.out, almost_end HAL.out (.inl HJ0.out), ho2, drewN_below hb3 _⟩
            · obtain ⟨j, rfl⟩ : ∃ j, gk = j + 1 := ⟨gk - 1, by omega⟩
              have hj1 : j + 1 < m2.length := by omega
              have hx1 : m2[j + 1]? = some (m2.getD (j + 1) 0) := getD_eq hj1 0
              have hx0 : m2[j]? = some (m2.getD j 0) := getD_eq (by omega) 0
              have q0 := ho2.cellAt (by omega) ei_len hx0 (t := 0) (by omega) rfl
              have q1 := ho2.cellAt (by omega) ei_len hx1 (t := 0) (by omega) rfl
              simp only [Nat.mul_one, Nat.add_zero] at q0 q1
              have HX0 := Lib.hid hx0
              have HX1 := Lib.hid hx1
              clear hx0 hx1 hj0 hml2
              generalize hA : m2.getD j 0 = A at q0 HX0
              generalize hC : m2.getD (j + 1) 0 = C at q1 HX1
              have HA := Lib.hid hA
              have HC := Lib.hid hC
              obtain ⟨qa, qf⟩ := q0
              obtain ⟨qc, qg⟩ := q1
              have hO2 := Lib.hid ho2
              clear hA hC ho2
              have i1 : (0 : Int) < (j : Int) + 1 := by omega
              cases hq : decide (C < A)
              · go_wp2_with fail
                go_quiet (fail)
                have hq' : A ≤ C := by simpa using hq
                clear hq
                go_wp2_with fail
                go_roundg (cur.length - (n + 1))
                case measure => have := HGK.out; omega
                case rel => exact ⟨n + 1, m2, by omega, by omega, rfl, by go_num, HP2.out, almost_end HAL.out (.inr (by rw [Nat.add_sub_cancel, HA.out, HC.out]; exact hq')), hO2.out, drewN_below hb3 _⟩
              · have hq' : C < A := by simpa using hq
                clear hq
                go_wp2_with fail
                go_quiet (fail)
                go_wp2_with fail
                go_region
                all_goals go_wp2_with fail
                go_roundg j
                case measure => omega
                case rel =>
                  have hsw : swap m2 j = (m2.set j C).set (j + 1) A := by rw [swap, HA.out, HC.out]
                  refine ⟨swap m2 j, by omega, rfl, (swap_perm m2 j hj1).trans HP2.out, almost_swap HAL.out (by have := HML2.out; omega) (by omega) (by rw [HA.out, HC.out]; exact hq'), ?_, ((drewN_below hb3 _).setCell hBg _).setCell hBg _⟩
                  rw [hsw]
                  exact own_set (own_set (hO2.out.drewN _) (by have := HML2.out; omega) (by omega) C) (by have := HML2.out; simp; omega) (by simp; omega) A
        · obtain rfl : n = cur.length := by omega
          go_wp2_with fail
          go_ret
          have h1 := HU.out
          rw [← HML.out] at h1
          exact ⟨_, m, rfl, HCR.out ▸ HP.out, upto_all h1, HO2.out, hb2⟩
end Go.Proofs.Ytocbpbeklbhjkaa.cls
