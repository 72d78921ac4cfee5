/- ClassMembers walked. -/
import Derived.Test.YtocbpbeklbhjkaaCounts
namespace Go.Proofs.Ytocbpbeklbhjkaa.cls
open Go.RowKit Go.Proofs.Ytocbpbeklbhjkaa.sl
theorem has_take {l : List Rg} {k : Nat} {x : Rg} (h : l[k]? = some x) (r : Int) : hasB (l.take (k + 1)) r = (hasB (l.take k) r || (decide (x.1 ≤ r) && decide (r ≤ x.2))) := by
  rw [List.take_add_one, h, has_append]
  simp [hasB]
theorem below_more {w0 w1 w2 : World} (hb : Below w0.heap.size w0 w1) (b : Below w1.heap.size w1 w2) : Below w0.heap.size w0 w2 := hb.trans (b.mono hb.size)
set_option maxHeartbeats 16000000 in
set_option maxRecDepth 100000 in
theorem members (a b : Option Addr) (l m : List Rg) (ca cb : Nat) (r : Int) (w : World) (h : Rd er w a l ca) (h' : Rd er w b m cb) :
    Calls Try.prog 5 #[.slice a l.length ca, .slice b m.length cb, .int .i32 r] w fun e w' => e = .returned (.bool true) ∧ Below w.heap.size w w' := by
  have cf := Lib.hid (few a l ca w h)
  have cg := Lib.hid (few b m cb w h')
  have hlen : (l.take 40).length ≤ 40 := by simp; omega
  have hlen' : (m.take 40).length ≤ 40 := by simp; omega
  have H0 := Rd.take (n := 40) h
  have H0' := Rd.take (n := 40) h'
  clear h h'
  generalize l.take 40 = L at cf hlen H0
  generalize m.take 40 = M at cg hlen' H0'
  have H := Lib.hid H0
  have H' := Lib.hid H0'
  clear H0 H0'
  go_enter Try.func5, Try.ntmps5
  go_wp2_with fail
  refine cf.out.mono ?_
  rintro e w' ⟨rfl, rfl⟩
  go_wp2_with fail
  refine cg.out.mono ?_
  rintro e w'' ⟨rfl, rfl⟩
  clear cf cg
  go_wp2_with fail
  go_loopg [7, 9] L.length (fun g x i wr => ∃ k : Nat, k ≤ L.length ∧ g = L.length - k ∧ x = .bool (hasB (L.take k) r) ∧ i = .int .i64 k ∧ Below w''.heap.size w'' wr)
  case atStart => exact ⟨0, by omega, rfl, rfl, rfl, Below.refl _ _⟩
  case round =>
    obtain ⟨k, hk, rfl, rfl, rfl, hb⟩ := hrel
    by_cases hlt : k < L.length
    · obtain ⟨x, hx⟩ : ∃ x, L[k]? = some x := ⟨_, List.getElem?_eq_getElem hlt⟩
      have HT := Lib.hid (has_take hx r)
      obtain ⟨b, off, rfl, hbl, c0, c1'⟩ := Rd.pair (H.out.kept hb) hx
      clear hx
      have i1 : (k : Int) < (L.length : Int) := by omega
      cases hX : hasB (L.take k) r <;> rw [hX] at HT <;> clear hX <;> by_cases h1 : x.1 ≤ r <;> by_cases h2 : r ≤ x.2
      all_goals
        go_wp2_with fail
        go_roundg (L.length - (k + 1))
        case measure => omega
        case rel => exact ⟨k + 1, by omega, rfl, by rw [HT.out]; simp [h1, h2], by go_num, hb⟩
    · obtain rfl : k = L.length := by omega
      rw [List.take_length]
      have hb0 := Lib.hid hb
      clear hb
      go_wp2_with fail
      go_loopg [8, 10] M.length (fun g x i wr => ∃ k : Nat, k ≤ M.length ∧ g = M.length - k ∧ x = .bool (hasB (M.take k) r) ∧ i = .int .i64 k ∧ Below w''.heap.size w'' wr)
      case atStart => exact ⟨0, by omega, rfl, rfl, rfl, hb0.out⟩
      case round =>
        obtain ⟨k, hk, rfl, rfl, rfl, hb⟩ := hrel
        by_cases hlt : k < M.length
        · obtain ⟨x, hx⟩ : ∃ x, M[k]? = some x := ⟨_, List.getElem?_eq_getElem hlt⟩
          have HT := Lib.hid (has_take hx r)
          obtain ⟨b, off, rfl, hbl, c0, c1'⟩ := Rd.pair (H'.out.kept hb) hx
          clear hx
          have i1 : (k : Int) < (M.length : Int) := by omega
          cases hX : hasB (M.take k) r <;> rw [hX] at HT <;> clear hX <;> by_cases h1 : x.1 ≤ r <;> by_cases h2 : r ≤ x.2
          all_goals
            go_wp2_with fail
            go_roundg (M.length - (k + 1))
            case measure => omega
            case rel => exact ⟨k + 1, by omega, rfl, by rw [HT.out]; simp [h1, h2], by go_num, hb⟩
        · obtain rfl : k = M.length := by omega
          rw [List.take_length]
          have RA := H.out.kept hb
          have RB := H'.out.kept hb
          have B0 := hb
          clear hb hb0 H H'
          have F1 := (makeF_makes L).2.1 r
          have F2 := (notF_nots L).2.1 r
          have F3 := (bothF_boths L M).2.1 r
          have F4 := (makeF_makes (L ++ M)).2.1 r
          rw [has_append] at F4
          cases hX : hasB L r <;> cases hY : hasB M r <;> cases hv : validB r <;> simp [hX, hY, hv] at F1 F2 F3 F4
          all_goals
            replace hX := Lib.hid hX
            replace hY := Lib.hid hY
            replace hv := Lib.hid hv
            replace F1 := Lib.hid F1
            replace F2 := Lib.hid F2
            replace F3 := Lib.hid F3
            replace F4 := Lib.hid F4
            replace RA := Lib.hid RA
            replace RB := Lib.hid RB
            replace B0 := Lib.hid B0
            go_wp2_with fail
            refine (hasV _ a L ca r wr RA.out hX.out).mono ?_
            rintro e w1 ⟨rfl, b1⟩
            have RA1 := Lib.hid (RA.out.kept b1)
            have RB1 := Lib.hid (RB.out.kept b1)
            have B1 := Lib.hid (below_more B0.out b1)
            clear b1 RA RB B0
            go_wp2_with fail
            refine (hasV _ b M cb r w1 RB1.out hY.out).mono ?_
            rintro e w2 ⟨rfl, b2⟩
            have RA2 := RA1.out.kept b2
            have RB2 := RB1.out.kept b2
            have B2 := below_more B1.out b2
            clear b2 RA1 RB1 B1
            have OE := own_empty w2 (Nat.le_refl w2.heap.size)
            have hbA := (Below.refl w2.heap.size w2).alloc (Nat.le_refl _) (.cells #[] 25)
            have rr1 := RA2.kept hbA
            have hsz : w2.heap.size ≤ (w2.alloc (.cells #[] 25)).heap.size := by simp
            have l1 : ([] : List Rg).length + L.length ≤ 1000000000 := by simp; omega
            have l2 : ([] ++ L : List Rg).length + M.length ≤ 1000000000 := by simp; omega
            go_wp2_with (at_builtin; first | (refine wpList_app elem_rg rfl rfl rfl rfl OE rr1 rfl er_len er_one l1 (by omega) hsz ?_; intro v5 w5 o5 g5; have hbx := Below.grow hbA OE g5 (Nat.le_refl _) hsz; have rr3 := RB2.kept hbx) | (go_must (refine wpList_app elem_rg rfl rfl rfl rfl o5 rr3 rfl er_len er_one l2 (by omega) hbx.size ?_); intro v6 w6 o6 g6))
            have hb6 := Below.grow hbx o5 g6 (Nat.le_refl _) hbx.size
            have RA3 := Lib.hid (RA2.kept hb6)
            have RB3 := Lib.hid (RB2.kept hb6)
            have B6 := Lib.hid (below_more B2 hb6)
            rw [List.nil_append] at o6
            obtain ⟨a6, c6, rfl, rd6, -⟩ := o6.rd
            clear B2 hb6 hbx rr3 g5 g6 o5 rr1 hbA OE hsz RA2 RB2
            refine (makeC a6 (L ++ M) c6 w6 rd6 (by simp; omega)).mono ?_
            rintro e w7 ⟨v7, rfl, o7, b7⟩
            obtain ⟨a7, c7, rfl, rd7, -⟩ := o7.rd
            have RA7 := Lib.hid (RA3.out.kept b7)
            have RB7 := Lib.hid (RB3.out.kept b7)
            have RJ7 := Lib.hid rd7
            have B7 := Lib.hid (below_more B6.out b7)
            clear b7 RA3 RB3 B6 o6 rd6 o7 rd7
            go_wp2_with fail
            refine (validV _ r _ hv.out).mono ?_
            rintro e w7' ⟨rfl, rfl⟩
            go_wp2_with fail
            refine (makeC a L ca w7' RA7.out (by omega)).mono ?_
            rintro e w8 ⟨v8, rfl, o8, b8⟩
            obtain ⟨a8, c8, rfl, rd8, -⟩ := o8.rd
            have RA8 := Lib.hid (RA7.out.kept b8)
            have RB8 := Lib.hid (RB7.out.kept b8)
            have RJ8 := Lib.hid (RJ7.out.kept b8)
            have R8 := Lib.hid rd8
            have B8 := Lib.hid (below_more B7.out b8)
            clear b8 RA7 RB7 RJ7 B7 o8 rd8
            go_wp2_with fail
            refine (hasV _ a8 (makeF L) c8 r w8 R8.out F1.out).mono ?_
            rintro e w9 ⟨rfl, b9⟩
            have RA9 := Lib.hid (RA8.out.kept b9)
            have RB9 := Lib.hid (RB8.out.kept b9)
            have RJ9 := Lib.hid (RJ8.out.kept b9)
            have B9 := Lib.hid (below_more B8.out b9)
            clear b9 RA8 RB8 RJ8 B8 R8
            go_wp2_with fail
            refine (notC a L ca w9 RA9.out (by omega)).mono ?_
            rintro e w10 ⟨v10, rfl, o10, b10⟩
            obtain ⟨a10, c10, rfl, rd10, -⟩ := o10.rd
            have RA10 := Lib.hid (RA9.out.kept b10)
            have RB10 := Lib.hid (RB9.out.kept b10)
            have RJ10 := Lib.hid (RJ9.out.kept b10)
            have R10 := Lib.hid rd10
            have B10 := Lib.hid (below_more B9.out b10)
            clear b10 RA9 RB9 RJ9 B9 o10 rd10
            go_wp2_with fail
            refine (hasV _ a10 (notF L) c10 r w10 R10.out F2.out).mono ?_
            rintro e w11 ⟨rfl, b11⟩
            have RA11 := Lib.hid (RA10.out.kept b11)
            have RB11 := Lib.hid (RB10.out.kept b11)
            have RJ11 := Lib.hid (RJ10.out.kept b11)
            have B11 := Lib.hid (below_more B10.out b11)
            clear b11 RA10 RB10 RJ10 B10 R10
            go_wp2_with fail
            refine (bothC a b L M ca cb w11 RA11.out RB11.out (by omega) (by omega)).mono ?_
            rintro e w12 ⟨v12, rfl, o12, b12⟩
            obtain ⟨a12, c12, rfl, rd12, -⟩ := o12.rd
            have RJ12 := Lib.hid (RJ11.out.kept b12)
            have R12 := Lib.hid rd12
            have B12 := Lib.hid (below_more B11.out b12)
            clear b12 RA11 RB11 RJ11 B11 o12 rd12
            go_wp2_with fail
            refine (hasV _ a12 (bothF L M) c12 r w12 R12.out F3.out).mono ?_
            rintro e w13 ⟨rfl, b13⟩
            have RJ13 := Lib.hid (RJ12.out.kept b13)
            have B13 := Lib.hid (below_more B12.out b13)
            clear b13 RJ12 B12 R12
            go_wp2_with fail
            refine (hasV _ a7 (makeF (L ++ M)) c7 r w13 RJ13.out F4.out).mono ?_
            rintro e w14 ⟨rfl, b14⟩
            have B14 := Lib.hid (below_more B13.out b14)
            clear b14 RJ13 B13
            go_wp2_with fail
            refine (runs w14).mono ?_
            rintro e w15 ⟨rfl, b15⟩
            go_wp2_with fail
            go_ret
            exact ⟨rfl, below_more B14.out b15⟩
end Go.Proofs.Ytocbpbeklbhjkaa.cls
