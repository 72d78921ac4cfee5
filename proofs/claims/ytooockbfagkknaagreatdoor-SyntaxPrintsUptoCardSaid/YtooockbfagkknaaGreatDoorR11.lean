/- spoorref7.Right; spoorref10: sign, rows, same. -/
import Derived.Test.YtooockbfagkknaaGreatDoorR10m
import Derived.Test.YtooockbfagkknaaGreatDoorShow
import Derived.Test.YtooockbfagkknaaGreatDoorItoa
import Derived.Test.YtooockbfagkknaaGreatDoorText2
namespace Go.Proofs.YtooockbfagkknaaGreatDoor.syn
open Go.RowKit Go.Proofs.YtooockbfagkknaaGreatDoor.sl Go.Proofs.YtooockbfagkknaaGreatDoor.cls
set_option maxHeartbeats 4000000 in
theorem rightR7 (a : Option Addr) (m : List Rg) (c1 : Nat) (w : World) (h : Rd er w a m c1) (hlen : m.length ≤ 2000000) :
    Calls Tryz.prog 53 #[.slice a m.length c1] w fun e w' => e = .returned (.bool (decide (m = makeF m))) ∧ Below w.heap.size w w' := by
  have hm2 := h.max
  have hle2 := h.le
  unfold maxLen at hm2
  have HM := Lib.hid h
  have c := Lib.hid (refMakeC a m c1 w h hlen)
  have hml := (makeF_makes m).2.2
  clear h
  generalize makeF m = l at c hml
  go_enter Tryz.func53, Tryz.ntmps53
  go_wp2_with fail
  refine c.out.mono ?_
  rintro e w1 ⟨v1, rfl, o1, b1⟩
  clear c
  obtain ⟨a1, cap1, rfl, rd1, -⟩ := o1.rd
  have hm1 := rd1.max
  have hle1 := rd1.le
  unfold maxLen at hm1
  have H := Lib.hid rd1
  have H' := Lib.hid (HM.out.kept b1)
  have B1 := Lib.hid b1
  clear b1 rd1 o1 HM
  by_cases hl : l.length = m.length
  · have HL := Lib.hid hl
    have hb1 : ((l.length : Int) != (m.length : Int)) = false := by simp; omega
    clear hl
    go_wp2_with fail
    go_loopg [4] m.length (fun g i wr => ∃ k : Nat, k ≤ m.length ∧ g = m.length - k ∧ i = .int .i64 k ∧ l.take k = m.take k ∧ Below w1.heap.size w1 wr)
    case atStart => exact ⟨0, by omega, rfl, rfl, rfl, Below.refl _ _⟩
    case round =>
      obtain ⟨k, hk, rfl, rfl, hh, hb⟩ := hrel
      have HH := Lib.hid hh
      clear hh
      by_cases hlt : k < m.length
      · have hlt2 : k < l.length := by have := HL.out; omega
        obtain ⟨x, hx⟩ : ∃ x, l[k]? = some x := ⟨_, List.getElem?_eq_getElem hlt2⟩
        obtain ⟨y, hy⟩ : ∃ y, m[k]? = some y := ⟨_, List.getElem?_eq_getElem hlt⟩
        obtain ⟨b1, o1, rfl, hbl, c0, c1⟩ := Rd.pair (H.out.kept hb) hx
        obtain ⟨b2, o2, rfl, hbl2, c0', c1'⟩ := Rd.pair (H'.out.kept hb) hy
        have HX := Lib.hid hx
        have HY := Lib.hid hy
        clear hx hy
        have e1 := equalIn_rg
        have e2 := guard_rg
        have i1 : (k : Int) < (l.length : Int) := by omega
        have i2 : (k : Int) < (m.length : Int) := by omega
        cases hq : rgEq x y
        · go_wp2_with fail
          go_quiet (fail)
          go_wp2_with fail
          go_ret
          exact ⟨by rw [decide_eq_false fun e => take_ne HX.out HY.out (rgEq_false hq) e.symm]; rfl, B1.out.trans ((drewN_below hb _).mono B1.out.size)⟩
        · go_wp2_with fail
          go_quiet (fail)
          go_wp2_with fail
          go_roundg (m.length - (k + 1))
          case measure => omega
          case rel => exact ⟨k + 1, by omega, rfl, by go_num, take_step HX.out HY.out HH.out (rgEq_true hq), drewN_below hb _⟩
      · obtain rfl : k = m.length := by omega
        go_wp2_with fail
        go_ret
        refine ⟨?_, B1.out.trans (hb.mono B1.out.size)⟩
        have : l = m := by have := HH.out; rwa [List.take_length, ← HL.out, List.take_length] at this
        simp [this]
  · have HL := Lib.hid hl
    have hb1 : ((l.length : Int) != (m.length : Int)) = true := by simp; omega
    clear hl
    go_wp2_with fail
    go_ret
    exact ⟨by rw [decide_eq_false fun e : m = l => HL.out (congrArg _ e).symm]; rfl, B1.out⟩
set_option maxHeartbeats 2000000 in
theorem signRC (r : Int) (w : World) : Calls Tryz.prog 45 #[.int .i32 r] w fun e w' => e = .returned (.string (bsR (shownR r))) ∧ w' = w := by
  have MC := Lib.hid (punctC r w)
  have hz := encode_size_le r
  by_cases h1 : r = 10
  · subst h1
    go_enter Tryz.func45, Tryz.ntmps45
    go_wp2_with fail
    go_ret
    exact ⟨rfl, rfl⟩
  have n1 : (r == 10) = false := by simpa using h1
  by_cases h2 : r = 9
  · subst h2
    go_enter Tryz.func45, Tryz.ntmps45
    go_wp2_with fail
    go_ret
    exact ⟨rfl, rfl⟩
  have n2 : (r == 9) = false := by simpa using h2
  by_cases h3 : r = 13
  · subst h3
    go_enter Tryz.func45, Tryz.ntmps45
    go_wp2_with fail
    go_ret
    exact ⟨rfl, rfl⟩
  have n3 : (r == 13) = false := by simpa using h3
  have E : Hid (shownR r = if markB r then [92, r] else [r]) := Lib.hid (by unfold shownR; rw [if_neg h1, if_neg h2, if_neg h3])
  clear h1 h2 h3
  generalize markB r = mk at MC E
  go_enter Tryz.func45, Tryz.ntmps45
  cases mk
  · go_wp2_with (go_at_call 66; refine MC.out.mono ?_; rintro e w' ⟨rfl, rfl⟩)
    go_ret
    refine ⟨?_, rfl⟩
    show Ending.returned (Value.string (Utf8.encode r)) = _
    rw [E.out, ← bsR_one]
    rfl
  · go_wp2_with (go_at_call 66; refine MC.out.mono ?_; rintro e w' ⟨rfl, rfl⟩)
    go_ret
    refine ⟨?_, rfl⟩
    show Ending.returned (Value.string (⟨#[92]⟩ ++ Utf8.encode r)) = Ending.returned (Value.string (bsR (shownR r)))
    rw [show shownR r = [92] ++ [r] from E.out, bsR_app, bsR_one r]
    rfl
set_option maxHeartbeats 4000000 in
set_option maxRecDepth 100000 in
theorem rowsRC (a : Option Addr) (l : List Rg) (cap : Nat) (w : World) (h : Rd er w a l cap) (hl : l.length ≤ 100000000) : Calls Tryz.prog 46 #[.slice a l.length cap] w fun e w' => e = .returned (.string (bsR (rangesR l))) ∧ Below w.heap.size w w' := by
  have hm := h.max
  have hle := h.le
  unfold maxLen at hm
  have H := Lib.hid h
  clear h
  go_enter Tryz.func46, Tryz.ntmps46
  go_wp2_with fail
  go_loopg [3, 4] l.length (fun g o i wr => ∃ (k : Nat) (s : ByteArray), k ≤ l.length ∧ g = l.length - k ∧ i = .int .i64 k ∧ o = .string s ∧ s = bsR (rangesR (l.take k)) ∧ s.size ≤ 20 * k ∧ Below w.heap.size w wr)
  case atStart => exact ⟨0, ⟨#[]⟩, by omega, rfl, rfl, rfl, rfl, by decide, Below.refl _ _⟩
  case round =>
    obtain ⟨k, s, hk, rfl, rfl, rfl, hs, hz, hb⟩ := hrel
    have HS := Lib.hid hs
    have BB := Lib.hid hb
    clear hs hb
    by_cases hlt : k < l.length
    · obtain ⟨x, hx⟩ : ∃ x, l[k]? = some x := ⟨_, List.getElem?_eq_getElem hlt⟩
      obtain ⟨b1, o1, rfl, hbl, c0, c1⟩ := Rd.pair (H.out.kept BB.out) hx
      have HX := Lib.hid (ranges_step hx)
      clear hx
      have i1 : (k : Int) < (l.length : Int) := by omega
      obtain ⟨lo, hi⟩ := x
      simp only at c0 c1
      have z1 := shown_size lo
      have z2 := shown_size hi
      have S1 := Lib.hid (fun w => signRC lo w)
      have S2 := Lib.hid (fun w => signRC hi w)
      have RE : Hid (bsR (rangeR (lo, hi)) = if lo < hi then bsR (shownR lo) ++ (bsR [45] ++ bsR (shownR hi)) else bsR (shownR lo)) := Lib.hid (by
        unfold rangeR
        by_cases hh : lo < hi
        · rw [if_pos hh, if_pos hh, bsR_app, show (45 : Int) :: shownR hi = [45] ++ shownR hi from rfl, bsR_app]
        · rw [if_neg hh, if_neg hh, List.append_nil])
      have RZ := rangeR_size (lo, hi)
      have HXZ : Hid ((bsR (rangeR (lo, hi))).size ≤ 20) := Lib.hid RZ
      clear RZ
      generalize bsR (shownR lo) = s1 at z1 S1 RE
      generalize bsR (shownR hi) = s2 at z2 S2 RE
      by_cases hh : lo < hi
      · rw [if_pos hh] at RE
        go_wp2_with fail
        refine (S1.out _).mono ?_
        rintro e w' ⟨rfl, rfl⟩
        go_wp2_with fail
        go_quiet (fail)
        have B3 := Lib.hid (drewN_below BB.out nq)
        have c1' : (w'.drewN nq).cell? ⟨b1, o1 + k * 2 + 1, none⟩ = some (.int .i32 hi) := c1
        clear c0 c1
        generalize w'.drewN nq = w3 at B3 c1' ⊢
        go_wp2_with fail
        refine (S2.out _).mono ?_
        rintro e w4 ⟨rfl, rfl⟩
        go_wp2_with fail
        go_roundg (l.length - (k + 1))
        case measure => omega
        case rel =>
          have e : s ++ s1 ++ ⟨#[45]⟩ ++ s2 = s ++ bsR (rangeR (lo, hi)) := by rw [RE.out, ByteArray.append_assoc, ByteArray.append_assoc]; rfl
          refine ⟨k + 1, _, by omega, rfl, by go_num, rfl, ?_, ?_, B3.out⟩
          · rw [HX.out, ← HS.out, ← e]
          · rw [e, ByteArray.size_append]
            have := HXZ.out
            omega
      · rw [if_neg hh] at RE
        have hh2 : hi ≤ lo := by omega
        go_wp2_with fail
        refine (S1.out _).mono ?_
        rintro e w' ⟨rfl, rfl⟩
        go_wp2_with fail
        go_quiet (fail)
        go_wp2_with fail
        go_roundg (l.length - (k + 1))
        case measure => omega
        case rel =>
          refine ⟨k + 1, _, by omega, rfl, by go_num, rfl, ?_, ?_, drewN_below BB.out _⟩
          · rw [HX.out, RE.out, ← HS.out]
          · rw [← RE.out, ByteArray.size_append]
            have := HXZ.out
            omega
    · obtain rfl : k = l.length := by omega
      go_wp2_with fail
      go_ret
      refine ⟨?_, BB.out⟩
      have := HS.out
      rw [List.take_length] at this
      rw [← this]
      rfl
set_option maxHeartbeats 4000000 in
set_option maxRecDepth 100000 in
theorem sameRC (a a1 : Option Addr) (m l : List Rg) (c1 cap1 : Nat) (w1 : World) (h : Rd er w1 a m c1) (h1 : Rd er w1 a1 l cap1) :
    Calls Tryz.prog 42 #[.slice a1 l.length cap1, .slice a m.length c1] w1 fun e w' => e = .returned (.bool (decide (m = l))) ∧ Below w1.heap.size w1 w' := by
  have hm2 := h.max
  have hle2 := h.le
  unfold maxLen at hm2
  have hm1 := h1.max
  have hle1 := h1.le
  unfold maxLen at hm1
  have H := Lib.hid h1
  have H' := Lib.hid h
  clear h h1
  go_enter Tryz.func42, Tryz.ntmps42
  by_cases hl : l.length = m.length
  · have HL := Lib.hid hl
    have hb1 : ((l.length : Int) != (m.length : Int)) = false := by simp; omega
    clear hl
    go_wp2_with fail
    go_loopg [5] m.length (fun g i wr => ∃ k : Nat, k ≤ m.length ∧ g = m.length - k ∧ i = .int .i64 k ∧ l.take k = m.take k ∧ Below w1.heap.size w1 wr)
    case atStart => exact ⟨0, by omega, rfl, rfl, rfl, Below.refl _ _⟩
    case round =>
      obtain ⟨k, hk, rfl, rfl, hh, hb⟩ := hrel
      have HH := Lib.hid hh
      clear hh
      by_cases hlt : k < m.length
      · have hlt2 : k < l.length := by have := HL.out; omega
        obtain ⟨x, hx⟩ : ∃ x, l[k]? = some x := ⟨_, List.getElem?_eq_getElem hlt2⟩
        obtain ⟨y, hy⟩ : ∃ y, m[k]? = some y := ⟨_, List.getElem?_eq_getElem hlt⟩
        obtain ⟨b1, o1, rfl, hbl, c0, c1⟩ := Rd.pair (H.out.kept hb) hx
        obtain ⟨b2, o2, rfl, hbl2, c0', c1'⟩ := Rd.pair (H'.out.kept hb) hy
        have HX := Lib.hid hx
        have HY := Lib.hid hy
        clear hx hy
        have e1 := equalIn_rg
        have e2 := guard_rg
        have i1 : (k : Int) < (l.length : Int) := by omega
        have i2 : (k : Int) < (m.length : Int) := by omega
        cases hq : rgEq x y
        · go_wp2_with fail
          go_quiet (fail)
          go_wp2_with fail
          go_ret
          exact ⟨by rw [decide_eq_false fun e => take_ne HX.out HY.out (rgEq_false hq) e.symm]; rfl, drewN_below hb _⟩
        · go_wp2_with fail
          go_quiet (fail)
          go_wp2_with fail
          go_roundg (m.length - (k + 1))
          case measure => omega
          case rel => exact ⟨k + 1, by omega, rfl, by go_num, take_step HX.out HY.out HH.out (rgEq_true hq), drewN_below hb _⟩
      · obtain rfl : k = m.length := by omega
        have i3 : ¬ ((m.length : Int) < (l.length : Int)) := by have := HL.out; omega
        go_wp2_with fail
        go_ret
        refine ⟨?_, hb⟩
        have : l = m := by have := HH.out; rwa [List.take_length, ← HL.out, List.take_length] at this
        simp [this]
  · have HL := Lib.hid hl
    have hb1 : ((l.length : Int) != (m.length : Int)) = true := by simp; omega
    clear hl
    go_wp2_with fail
    go_ret
    exact ⟨by rw [decide_eq_false fun e : m = l => HL.out (congrArg _ e).symm]; rfl, Below.refl _ _⟩
end Go.Proofs.YtooockbfagkknaaGreatDoor.syn
/- spoorref10: times. -/
namespace Go.Proofs.YtooockbfagkknaaGreatDoor.syn
open Go.RowKit Go.Proofs.YtooockbfagkknaaGreatDoor.sl Go.Proofs.YtooockbfagkknaaGreatDoor.cls
set_option maxHeartbeats 4000000 in
set_option maxRecDepth 100000 in
theorem timesRC (y : NdV) (h1 : 0 ≤ y.x.mn) (h2 : y.x.mn ≤ 30) (h3 : y.x.mx = -1 ∨ (y.x.mn ≤ y.x.mx ∧ y.x.mx ≤ 30)) (w : World) (ht : Tab w) : Calls Tryz.prog 47 #[agN y] w fun e w' => e = .returned (.string (bsR (sizesR y.x))) ∧ Below w.heap.size w w' := by
  obtain ⟨⟨op, r, mn, mx, lz, cap, kids⟩, a, n, c⟩ := y
  simp only at h1 h2 h3
  suffices key : ∀ s, bsR (sizesR ⟨op, r, mn, mx, lz, cap, kids⟩) = s → Calls Tryz.prog 47 #[.agg #[.int .i64 op, .slice a n c, .int .i64 mn, .int .i64 mx, .bool lz, .int .i64 cap, .int .i64 kids]] w fun e w' => e = .returned (.string s) ∧ Below w.heap.size w w' from key _ rfl
  intro s hs
  have HS := Lib.hid hs
  have HT := Lib.hid ht
  clear hs ht
  have z1 := it_size mn (by omega) h2
  have z2 := it_size mx (by omega) (by omega)
  have b0 := (Below.refl w.heap.size w).alloc (Nat.le_refl _) (.cells #[.int .i64 op, .slice a n c, .int .i64 mn, .int .i64 mx, .bool lz, .int .i64 cap, .int .i64 kids] 35)
  have nb0 := heap_alloc_new w (.cells #[.int .i64 op, .slice a n c, .int .i64 mn, .int .i64 mx, .bool lz, .int .i64 cap, .int .i64 kids] 35)
  have B0 := Lib.hid b0
  have NB0 := Lib.hid nb0
  have TW := Lib.hid (HT.out.kept b0)
  clear b0 nb0 HT
  go_enter Tryz.func47, Tryz.ntmps47
  go_upto_region 1 with fail
  generalize (w.alloc (.cells #[.int .i64 op, .slice a n c, .int .i64 mn, .int .i64 mx, .bool lz, .int .i64 cap, .int .i64 kids] 35)) = w1 at B0 NB0 TW ⊢
  generalize w.heap.size = Nb at NB0 ⊢
  have d2 := cell_of_obj (o := 2) (u := .int .i64 mn) NB0.out rfl
  have d3 := cell_of_obj (o := 3) (u := .int .i64 mx) NB0.out rfl
  go_cut [3] (fun s3 wx => s3 = .string (⟨#[123]⟩ ++ bsR (itR mn) ++ ⟨#[44]⟩ ++ bsR (itR mx) ++ ⟨#[125]⟩) ∧ Below w.heap.size w wx ∧ wx.heap[Nb]? = some (.cells #[.int .i64 op, .slice a n c, .int .i64 mn, .int .i64 mx, .bool lz, .int .i64 cap, .int .i64 kids] 35))
  case first =>
    by_cases hx : mx = -1
    · subst hx
      go_region_with (first | (go_at_call 62; (with_reducible refine (itoaS mn h1 h2 _).mono ?_); rintro e w4 ⟨rfl, rfl⟩) | (go_at_call 62; (with_reducible refine (itoaM _ (TW.out.kept (below_drew (Below.refl _ _)))).mono ?_); rintro e w4 ⟨rfl, b4⟩))
      all_goals (go_wp2_with fail)
      all_goals go_meet
      all_goals exact ⟨rfl, (drewN_below B0.out 1).trans (b4.mono B0.out.size), (b4.block Nb (heap_lt NB0.out)).trans NB0.out⟩
    · have hx0 : 0 ≤ mx := by omega
      have hx1 : mx ≤ 30 := by omega
      go_quiet ((go_at_call 62; exact Calls.quiet_of_same (itoaS _ (by omega) (by omega) _)))
      go_wp2_with fail
      go_meet
      exact ⟨rfl, drewN_below B0.out _, NB0.out⟩
  case rest =>
    obtain ⟨rfl, b2, nb2⟩ := hcut
    have B2 := Lib.hid b2
    have d2 := cell_of_obj (o := 2) (u := .int .i64 mn) nb2 rfl
    have d3 := cell_of_obj (o := 3) (u := .int .i64 mx) nb2 rfl
    have d4 := cell_of_obj (o := 4) (u := .bool lz) nb2 rfl
    have nb3 := nb2
    clear b2 nb2 B0 NB0 TW d4
    have SZ := HS.out
    rw [sizes_bytes] at SZ
    simp only at SZ
    have IC := Lib.hid (fun w => itoaS mn h1 h2 w)
    have NB2 := Lib.hid nb3
    generalize bsR (itR mn) = s1 at z1 SZ IC ⊢
    generalize bsR (itR mx) = s2 at z2 SZ ⊢
    obtain ⟨S, hS⟩ : ∃ S, (if mn = 0 ∧ mx = -1 then (⟨#[42]⟩ : ByteArray) else if mn = 1 ∧ mx = -1 then ⟨#[43]⟩ else if mn = 0 ∧ mx = 1 then ⟨#[63]⟩
      else if mx = -1 then ⟨#[123]⟩ ++ s1 ++ ⟨#[44, 125]⟩ else if mn = mx then ⟨#[123]⟩ ++ s1 ++ ⟨#[125]⟩
      else ⟨#[123]⟩ ++ s1 ++ ⟨#[44]⟩ ++ s2 ++ ⟨#[125]⟩) = S := ⟨_, rfl⟩
    rw [hS] at SZ
    have SC := Lib.hid hS
    have SZ2 := Lib.hid SZ
    have hSz : S.size ≤ 100 := by
      rw [← hS]
      repeat' split
      all_goals (try simp only [ByteArray.size_append])
      all_goals (try simp only [show (⟨#[123]⟩ : ByteArray).size = 1 from rfl, show (⟨#[44, 125]⟩ : ByteArray).size = 2 from rfl, show (⟨#[125]⟩ : ByteArray).size = 1 from rfl, show (⟨#[44]⟩ : ByteArray).size = 1 from rfl])
      all_goals first | omega | decide
    clear SZ HS hS
    go_upto_block 0 with fail
    go_cut [3] (fun s3 wx => s3 = .string S ∧ Below w.heap.size w wx ∧ wx.heap[Nb]? = some (.cells #[.int .i64 op, .slice a n c, .int .i64 mn, .int .i64 mx, .bool lz, .int .i64 cap, .int .i64 kids] 35))
    case first =>
      by_cases hx : mx = -1
      · subst hx
        by_cases hm0 : mn = 0
        · subst hm0
          go_wp2_with fail
          go_meet
          exact ⟨by rw [← SC.out, if_pos (by simp)], B2.out, NB2.out⟩
        · have n0 : (mn == 0) = false := by simpa using hm0
          by_cases hm1 : mn = 1
          · subst hm1
            go_wp2_with fail
            go_meet
            exact ⟨by rw [← SC.out, if_neg (by simp), if_pos (by simp)], B2.out, NB2.out⟩
          · have n1 : (mn == 1) = false := by simpa using hm1
            have HM0 := Lib.hid hm0
            have HM1 := Lib.hid hm1
            clear hm0 hm1
            go_wp2_with fail
            refine (IC.out _).mono ?_
            rintro e w4 ⟨rfl, rfl⟩
            go_wp2_with fail
            go_meet
            exact ⟨by rw [← SC.out, if_neg (fun h => HM0.out h.1), if_neg (fun h => HM1.out h.1), if_neg (fun h => HM0.out h.1), if_pos (by simp)], B2.out, NB2.out⟩
      · have nx : (mx == -1) = false := by simpa using hx
        have HX := Lib.hid hx
        by_cases he : mn = mx
        · subst he
          have hm1' : ¬ (mn = 0 ∧ mn = 1) := by omega
          have n3 : (mn == mn) = true := by simp
          clear hx
          have SCE : ⟨#[123]⟩ ++ s1 ++ ⟨#[125]⟩ = S := by rw [← SC.out, if_neg (fun h => HX.out h.2), if_neg (fun h => HX.out h.2), if_neg hm1', if_neg HX.out, if_pos rfl]
          have SCE2 := Lib.hid SCE
          clear SCE hm1'
          by_cases hm0 : mn = 0
          · have IC0 : Hid (∀ w, Calls Tryz.prog 62 #[.int .i64 0] w fun e w' => e = .returned (.string s1) ∧ w' = w) := by rw [hm0] at IC; exact IC
            have d2' := d2
            have d3' := d3
            rw [hm0] at d2' d3'
            clear d2 d3 nx n3 hm0
            go_wp2_with fail
            refine (IC0.out _).mono ?_
            rintro e w4 ⟨rfl, rfl⟩
            go_wp2_with fail
            go_meet
            exact ⟨by rw [← SCE2.out], B2.out, NB2.out⟩
          · have n0 : (mn == 0) = false := by simpa using hm0
            clear hm0
            by_cases hm1 : mn = 1
            · have IC0 : Hid (∀ w, Calls Tryz.prog 62 #[.int .i64 1] w fun e w' => e = .returned (.string s1) ∧ w' = w) := by rw [hm1] at IC; exact IC
              have d2' := d2
              have d3' := d3
              rw [hm1] at d2' d3'
              clear d2 d3 nx n3 n0 hm1
              go_wp2_with fail
              refine (IC0.out _).mono ?_
              rintro e w4 ⟨rfl, rfl⟩
              go_wp2_with fail
              go_meet
              exact ⟨by rw [← SCE2.out], B2.out, NB2.out⟩
            · have n1 : (mn == 1) = false := by simpa using hm1
              clear hm1
              go_wp2_with fail
              refine (IC.out _).mono ?_
              rintro e w4 ⟨rfl, rfl⟩
              go_wp2_with fail
              go_meet
              exact ⟨by rw [← SCE2.out], B2.out, NB2.out⟩
        · have ne : (mn == mx) = false := by simpa using he
          have HE := Lib.hid he
          clear he hx
          by_cases hm0 : mn = 0
          · have d2' := d2
            rw [hm0] at d2'
            by_cases hx1 : mx = 1
            · have d3' := d3
              rw [hx1] at d3'
              have SCE : ⟨#[63]⟩ = S := by rw [← SC.out, if_neg (fun h => HX.out h.2), if_neg (fun h => HX.out h.2), if_pos ⟨hm0, hx1⟩]
              have SCE2 := Lib.hid SCE
              clear SCE d2 d3 nx ne hm0 hx1
              go_wp2_with fail
              go_meet
              exact ⟨by rw [← SCE2.out], B2.out, NB2.out⟩
            · have nx1 : (mx == 1) = false := by simpa using hx1
              have ne' : ((0 : Int) == mx) = false := by rw [← hm0]; exact ne
              have SCE : ⟨#[123]⟩ ++ s1 ++ ⟨#[44]⟩ ++ s2 ++ ⟨#[125]⟩ = S := by rw [← SC.out, if_neg (fun h => HX.out h.2), if_neg (fun h => HX.out h.2), if_neg (fun h => hx1 h.2), if_neg HX.out, if_neg HE.out]
              have SCE2 := Lib.hid SCE
              clear SCE d2 hx1 ne hm0
              go_wp2_with fail
              go_meet
              exact ⟨by rw [← SCE2.out], B2.out, NB2.out⟩
          · have n0 : (mn == 0) = false := by simpa using hm0
            have SCE : ⟨#[123]⟩ ++ s1 ++ ⟨#[44]⟩ ++ s2 ++ ⟨#[125]⟩ = S := by rw [← SC.out, if_neg (fun h => HX.out h.2), if_neg (fun h => HX.out h.2), if_neg (fun h => hm0 h.1), if_neg HX.out, if_neg HE.out]
            have SCE2 := Lib.hid SCE
            clear SCE hm0
            by_cases hm1 : mn = 1
            · have d2' := d2
              rw [hm1] at d2'
              have ne' : ((1 : Int) == mx) = false := by rw [← hm1]; exact ne
              clear d2 n0 ne hm1
              go_wp2_with fail
              go_meet
              exact ⟨by rw [← SCE2.out], B2.out, NB2.out⟩
            · have n1 : (mn == 1) = false := by simpa using hm1
              clear hm1
              go_wp2_with fail
              go_meet
              exact ⟨by rw [← SCE2.out], B2.out, NB2.out⟩
    case rest =>
      obtain ⟨rfl, b3, nb3⟩ := hcut
      have B3 := Lib.hid b3
      have d4 := cell_of_obj (o := 4) (u := .bool lz) nb3 rfl
      clear b3 nb3 B2 NB2 d2 d3
      cases lz
      · go_wp2_with fail
        go_ret
        refine ⟨?_, B3.out⟩
        have e0 : S ++ (if (false = true) then (⟨#[63]⟩ : ByteArray) else ⟨#[]⟩) = S := by rw [if_neg (by decide)]; exact ByteArray.append_empty
        rw [← SZ2.out]
        exact congrArg (fun x => Ending.returned (Value.string x)) e0.symm
      · go_wp2_with fail
        go_ret
        refine ⟨?_, B3.out⟩
        rw [← SZ2.out]
        rfl
end Go.Proofs.YtooockbfagkknaaGreatDoor.syn
/- spoorref10: show. -/
namespace Go.Proofs.YtooockbfagkknaaGreatDoor.syn
open Go.RowKit Go.Proofs.YtooockbfagkknaaGreatDoor.sl Go.Proofs.YtooockbfagkknaaGreatDoor.cls
/-- Right nodes have one of eight ops. -/
theorem right_op {L : List Nd} : ∀ {n a b : Nat}, rWalk L n a = some b → a < L.length ∧ 1 ≤ (L.getD a (nd 0)).op ∧ (L.getD a (nd 0)).op ≤ 8
  | 0, a, b, h => nomatch h
  | n + 1, a, b, h => by
    have hb := rWalk_bd L _ _ _ h
    rw [rWalk, if_neg (by omega)] at h
    obtain ⟨k, hk⟩ : ∃ k, shapeR (L.getD a (nd 0)) = some k := by
      split at h
      · cases h
      · rename_i k hk; exact ⟨k, hk⟩
    have hs := shape_sh hk
    refine ⟨by omega, ?_⟩
    cases hs with
    | leaf ho _ _ => omega
    | cls e _ _ => rw [e]; simp [ndC, nd]
    | many h _ _ _ => omega
    | rep e _ _ _ _ => rw [e]; simp [nd]
    | grp e _ _ _ => rw [e]; simp [nd]
theorem bound3 (k : Int) : boundB 3 k = ((k == 3) || (k == 4)) := by
  unfold boundB
  simp
theorem bound4 (k : Int) : boundB 4 k = (k == 4) := by
  unfold boundB
  simp
theorem bound6 (k : Int) : boundB 6 k = false := by
  unfold boundB
  simp
theorem bound5 {k : Int} (h1 : 1 ≤ k) (h2 : k ≤ 8) : boundB 5 k = ((k != 2) && (k != 6) && (k != 7) && (k != 8) && (k != 1)) := by
  unfold boundB
  rw [Bool.eq_iff_iff]
  simp
  omega
theorem wrap_bytes (b : Bool) (t : List Int) : bsR (wrapR b t) = if b then ⟨#[40, 63, 58]⟩ ++ bsR t ++ ⟨#[41]⟩ else bsR t := by
  cases b
  · rfl
  · show bsR ([40, 63, 58] ++ t ++ [41]) = _
    rw [bsR_app, bsR_app]
    rfl
theorem single_at {w : World} {a : Option Addr} {l : List Rg} {cap : Nat} (h : Rd er w a l cap) (hs : rSingle l = true) : ∃ b off, a = some ⟨b, off, none⟩ ∧ l.length = 1 ∧ w.cell? ⟨b, off, none⟩ = some (.int .i32 (lo0 l)) := by
  unfold rSingle at hs
  simp only [Bool.and_eq_true, decide_eq_true_eq] at hs
  obtain ⟨x, rfl⟩ := List.length_eq_one_iff.1 hs.1
  obtain ⟨b, off, rfl, _, q0, _⟩ := Rd.pair h (i := 0) (x := x) rfl
  simp only [Nat.zero_mul, Nat.add_zero] at q0
  exact ⟨b, off, rfl, rfl, q0⟩
theorem ba_nil (x : ByteArray) : x ++ (⟨#[]⟩ : ByteArray) = x := ByteArray.append_empty
theorem wrap_le (b : Bool) (t : List Int) : t.length ≤ (wrapR b t).length := by
  unfold wrapR
  split
  · simp only [List.length_append]; omega
  · exact Nat.le_refl _
def ShowPost (w : World) (t : List Int) (b : Nat) (e : Ending) (w' : World) : Prop := e = .returned (.tuple #[.string (bsR t), .int .i64 b]) ∧ Below w.heap.size w w'
def ShowC (W : World) (la : Option Addr) (lc : Nat) (ls : List NdV) (n : Nat) : Prop := ∀ (a b : Nat) (w : World), rWalk (ls.map NdV.x) n a = some b → Below W.heap.size W w →
  Calls Tryz.prog 28 #[.slice la ls.length lc, .int .i64 a] w (ShowPost w (textR (ls.map NdV.x) n a).1 b)
/-- Behind the j first kids. -/
def KidsAt (L : List Nd) (n : Nat) (o : Int) (sep : List Int) (a0 m : Nat) (t : List Int) (j : Nat) (pre : List Int) (a2 : Nat) : Prop :=
  (j = 0 ∧ pre = [] ∧ a2 = a0 ∧ (kidR L (textR L n) o a0).1 ++ (kidsR (kidR L (textR L n) o) sep m (kidR L (textR L n) o a0).2).1 = t) ∨
  (1 ≤ j ∧ pre ++ (kidsR (kidR L (textR L n) o) sep (m + 1 - j) a2).1 = t)
theorem kidsAt_step {L : List Nd} {n : Nat} {o : Int} {sep : List Int} {a0 m : Nat} {t : List Int} {j : Nat} {pre : List Int} {a2 : Nat} (h : KidsAt L n o sep a0 m t j pre a2) (hj : j < m + 1) :
    KidsAt L n o sep a0 m t (j + 1) (pre ++ (if j = 0 then [] else sep) ++ (kidR L (textR L n) o a2).1) (kidR L (textR L n) o a2).2 ∧ (pre ++ (if j = 0 then [] else sep) ++ (kidR L (textR L n) o a2).1).length ≤ t.length := by
  rcases h with ⟨rfl, rfl, rfl, h⟩ | ⟨h1, h2⟩
  · refine ⟨.inr ⟨by omega, ?_⟩, ?_⟩
    · simpa using h
    · have := congrArg List.length h
      simp at this ⊢
      omega
  · obtain ⟨q, hq⟩ : ∃ q, m + 1 - j = q + 1 := ⟨m - j, by omega⟩
    rw [hq, kidsR] at h2
    have hq2 : m + 1 - (j + 1) = q := by omega
    rw [if_neg (by omega)]
    refine ⟨.inr ⟨by omega, ?_⟩, ?_⟩
    · rw [hq2, ← h2]
      simp
    · have := congrArg List.length h2
      simp at this ⊢
      omega
theorem kidsAt_end {L : List Nd} {n : Nat} {o : Int} {sep : List Int} {a0 m : Nat} {t : List Int} {pre : List Int} {a2 : Nat} (h : KidsAt L n o sep a0 m t (m + 1) pre a2) : pre = t := by
  rcases h with ⟨h, _⟩ | ⟨_, h⟩
  · omega
  · rw [Nat.sub_self] at h
    simpa [kidsR] using h
section
variable {W : World} {la : Option Addr} {lc : Nat} {ls : List NdV}
/-- The op of a node that is read. -/
theorem op_cell (N : Nrd W la lc ls) {w : World} (hb : Below W.heap.size W w) {bb off : Nat} (hla : la = some ⟨bb, off, none⟩) {a : Nat} (h : a < ls.length) : w.cell? ⟨bb, off + a * 7, none⟩ = some (.int .i64 ((ls.map NdV.x).getD a (nd 0)).op) := by
  obtain ⟨y, hy⟩ : ∃ y, ls[a]? = some y := ⟨_, List.getElem?_eq_getElem h⟩
  have hgd : (ls.map NdV.x).getD a (nd 0) = y.x := by simp [List.getD_eq_getElem?_getD, hy]
  obtain ⟨b2, o2, e, -, hc⟩ := (N.kept hb).rd.cells eN_len hy
  rw [hla] at e
  cases e
  have := hc 0 (.int .i64 y.x.op) (by omega) rfl
  rw [hgd]
  simpa using this
set_option maxHeartbeats 8000000 in
set_option maxRecDepth 100000 in
theorem showRC (N : Nrd W la lc ls) (hlen : ls.length ≤ 480) (hTab : Tab W) {n : Nat} (KC : ShowC W la lc ls n) : ShowC W la lc ls (n + 1) := by
  intro a b w hw hb
  have hbd := rWalk_bd _ _ _ _ hw
  rw [List.length_map] at hbd
  have hlt : a < ls.length := by omega
  obtain ⟨y, hy⟩ : ∃ y, ls[a]? = some y := ⟨_, List.getElem?_eq_getElem hlt⟩
  have hgd : (ls.map NdV.x).getD a (nd 0) = y.x := by simp [List.getD_eq_getElem?_getD, hy]
  have htl := text_len (ls.map NdV.x) (fun x hx => by obtain ⟨z, hz, rfl⟩ := List.mem_map.1 hx; exact (N.each z hz).2.2.1) (n + 1) a b hw
  have hz : (textR (ls.map NdV.x) (n + 1) a).1.length ≤ 10000000000 := by
    have : b - a ≤ 480 := by omega
    have : 20000000 * (b - a) ≤ 20000000 * 480 := Nat.mul_le_mul_left _ this
    omega
  have hw2 := hw
  rw [rWalk, if_neg (by simp; omega), hgd] at hw2
  obtain ⟨kk, hk⟩ : ∃ k, shapeR y.x = some k := by
    split at hw2
    · cases hw2
    · rename_i k hk; exact ⟨k, hk⟩
  rw [hk] at hw2
  simp only at hw2
  have hs := shape_sh hk
  suffices key : ∀ t, (textR (ls.map NdV.x) (n + 1) a).1 = t → Calls Tryz.prog 28 #[.slice la ls.length lc, .int .i64 a] w (ShowPost w t b) from key _ rfl
  intro t ht
  rw [ht] at hz
  rw [textR, hgd] at ht
  have YE := Lib.hid (N.each y (List.mem_of_getElem? hy))
  have i2 : (a : Int) < (ls.length : Int) := by omega
  have OC := Lib.hid (fun (w' : World) (q : Below W.heap.size W w') (bb off : Nat) (e : la = some ⟨bb, off, none⟩) (a' : Nat) (h : a' < ls.length) => op_cell N q e h)
  have NK := Lib.hid N
  obtain ⟨bb, off, hla, hbl, hc⟩ := (N.kept hb).rd.cells eN_len hy
  have q0 := hc 0 (.int .i64 y.x.op) (by omega) rfl
  have q1 := hc 1 (.slice y.a y.n y.c) (by omega) rfl
  have q2 := hc 2 (.int .i64 y.x.mn) (by omega) rfl
  have q3 := hc 3 (.int .i64 y.x.mx) (by omega) rfl
  have q4 := hc 4 (.bool y.x.lz) (by omega) rfl
  have q5 := hc 5 (.int .i64 y.x.cap) (by omega) rfl
  have q6 := hc 6 (.int .i64 y.x.kids) (by omega) rfl
  simp only [Nat.add_zero] at q0
  simp only [← Nat.add_assoc] at q1 q2 q3 q4 q5 q6
  have HT := Lib.hid ht
  have HW := Lib.hid hw2
  have HS := Lib.hid hs
  have B := Lib.hid hb
  have HLA := Lib.hid hla
  have B0 := Lib.hid ((Below.refl w.heap.size w).alloc (Nat.le_refl _) (ncell y))
  have B1 := Lib.hid (hb.alloc hb.size (ncell y))
  have NB := Lib.hid (heap_alloc_new w (ncell y))
  clear ht hw hw2 hs hk hb hc hy hgd htl
  subst hla
  have hRO := fun (a b : Nat) => @right_op (ls.map NdV.x) n a b
  have RO : Hid (∀ a b, rWalk (ls.map NdV.x) n a = some b → a < (ls.map NdV.x).length ∧ 1 ≤ ((ls.map NdV.x).getD a (nd 0)).op ∧ ((ls.map NdV.x).getD a (nd 0)).op ≤ 8) := Lib.hid hRO
  clear hRO
  go_enter Tryz.func28, Tryz.ntmps28
  go_upto_region 2 with fail
  change Code.wp _ _ _ _ (w.alloc (ncell y))
  generalize hNb : w.heap.size = Nb at NB ⊢
  have HNb := Lib.hid hNb
  clear hNb q0 q1 q2 q3 q4 q5 q6
  generalize w.alloc (ncell y) = w5 at B0 B1 NB ⊢
  have d0 := cell_of_obj (o := 0) (u := .int .i64 y.x.op) NB.out rfl
  have d1 := cell_of_obj (o := 1) (u := .slice y.a y.n y.c) NB.out rfl
  have d6 := cell_of_obj (o := 6) (u := .int .i64 y.x.kids) NB.out rfl
  have d2 := cell_of_obj (o := 2) (u := .int .i64 y.x.mn) NB.out rfl
  have d3 := cell_of_obj (o := 3) (u := .int .i64 y.x.mx) NB.out rfl
  have d4 := cell_of_obj (o := 4) (u := .bool y.x.lz) NB.out rfl
  have d5 := cell_of_obj (o := 5) (u := .int .i64 y.x.cap) NB.out rfl
  have hs := HS.out
  clear HS
  cases hs with
  | leaf ho e hk0 =>
    clear d1 d2 d3 d4 d5 d6 e
    subst hk0
    have e1 := HT.out
    have e2 : a + 1 = b := by have := HW.out; simpa [rKids] using this
    subst e2
    rw [if_neg (by omega)] at e1
    rcases ho with ho | ho | ho
    · rw [if_neg (by omega), if_neg (by omega), if_neg (by omega), if_neg (by omega), if_neg (by omega)] at e1
      rw [ho] at d0
      have E1 := Lib.hid e1
      clear e1 HT ho HW
      go_wp2_with fail
      go_ret2
      exact ⟨by rw [← E1.out]; rfl, B0.out⟩
    · rw [if_pos ho] at e1
      rw [ho] at d0
      have E1 := Lib.hid e1
      clear e1 HT ho HW
      go_wp2_with fail
      go_ret2
      exact ⟨by rw [← E1.out]; rfl, B0.out⟩
    · rw [if_neg (by omega), if_pos ho] at e1
      rw [ho] at d0
      have E1 := Lib.hid e1
      clear e1 HT ho HW
      go_wp2_with fail
      go_ret2
      exact ⟨by rw [← E1.out]; rfl, B0.out⟩
  | cls e hg hk0 =>
    subst hk0
    have ho : y.x.op = 2 := by rw [e]; rfl
    have e1 := HT.out
    have e2 : a + 1 = b := by have := HW.out; simpa [rKids] using this
    subst e2
    rw [if_pos ho] at e1
    rw [ho] at d0
    rw [YE.out.1] at d1
    have E1 : Hid (classedR y.x.r = t) := Lib.hid e1
    have RC0 := Lib.hid (YE.out.2.1.kept B1.out)
    have hl := YE.out.2.2.1
    have hNl : Nb < w5.heap.size := heap_lt NB.out
    clear e1 HT ho HW e hg d2 d3 d4 d5 d6
    generalize y.x.r = r at d1 E1 RC0 hl
    go_upto_region 5 with fail
    go_cut [27] (fun bv wx => bv = .bool (decide (r = dotF)) ∧ Below w5.heap.size w5 wx)
    case first =>
      go_region_held3 (fun w' => w'.cell? ⟨Nb, 1, none⟩ = some (.slice y.a r.length y.c)) (first | exact d1 | go_keep) (first | (go_at_call 43; refine (refNotC (some ⟨w5.drew.heap.size, 0, none⟩) [(10, 10)] dotF 1 _ (Rd.built (w := w5.drew) [(10, 10)] 1 rfl rfl (by omega)) (by simp) (notF_nots _)).mono ?_; rintro e w6 ⟨v6, rfl, o6, b6⟩; obtain ⟨a6, c6, rfl, r6, -⟩ := o6.rd; have B6 : Below w5.heap.size w5 w6 := ((drewN_below (Below.refl w5.heap.size w5) 1).alloc (Nat.le_refl _) (.cells #[.int .i32 10, .int .i32 10] 58)).trans (b6.mono (by simp)); have k1 : w6.cell? ⟨Nb, 1, none⟩ = some (.slice y.a r.length y.c) := (World.cell?_of_block (B6.block Nb hNl)).trans d1) | (go_at_call 42; refine (sameRC a6 y.a dotF r c6 y.c _ r6 (RC0.out.kept B6)).mono ?_; rintro e w7 ⟨rfl, b7⟩; have k2 : w7.cell? ⟨Nb, 1, none⟩ = some (.slice y.a r.length y.c) := (World.cell?_of_block ((B6.trans (b7.mono B6.size)).block Nb hNl)).trans d1))
      all_goals (go_wp2_with fail)
      all_goals go_meet
      all_goals exact ⟨by rw [decide_eq_decide.2 (eq_comm (a := dotF) (b := r))], B6.trans (b7.mono B6.size)⟩
    case rest =>
      obtain ⟨rfl, b6⟩ := hcut
      have B6 := Lib.hid (B0.out.trans (b6.mono B0.out.size))
      have RL := Lib.hid (RC0.out.kept b6)
      have d1' : wc.cell? ⟨Nb, 1, none⟩ = some (.slice y.a r.length y.c) := (World.cell?_of_block (b6.block Nb hNl)).trans d1
      clear b6 d1 d0 RC0 B0 B1 NB
      generalize wc = w6 at B6 RL d1' ⊢
      unfold classedR at E1
      by_cases hd : r = dotF
      · have e1 := E1.out
        rw [if_pos hd] at e1
        have E2 := Lib.hid e1
        rw [decide_eq_true hd]
        clear hd e1 E1
        go_wp2_with fail
        go_ret2
        exact ⟨by rw [← E2.out]; rfl, B6.out⟩
      · have e1 := E1.out
        rw [if_neg hd] at e1
        rw [decide_eq_false hd]
        have E2 := Lib.hid e1
        have SI := Lib.hid (singleRC y.a r y.c w6 RL.out)
        clear hd e1 E1
        cases hsg : rSingle r
        · rw [hsg] at SI
          have HSG := Lib.hid hsg
          clear hsg
          go_wp2_with fail
          refine SI.out.mono ?_
          rintro e w7 ⟨rfl, n7, rfl⟩
          have RL7 := Lib.hid (RL.out.drewN' n7)
          have B7 := Lib.hid (drewN_below B6.out n7)
          have d1 : (w6.drewN n7).cell? ⟨Nb, 1, none⟩ = some (.slice y.a r.length y.c) := d1'
          clear RL B6 d1' SI
          generalize w6.drewN n7 = w7 at RL7 B7 d1 ⊢
          by_cases h0 : r.length = 0
          · have hn : r = [] := List.eq_nil_of_length_eq_zero h0
            subst hn
            have e1 := E2.out
            rw [if_pos rfl] at e1
            have E3 := Lib.hid e1
            clear e1 E2
            go_wp2_with fail
            refine (refNotC none [] (notF []) 0 w7 (Rd.nil _ _) (by simp) (notF_nots _)).mono ?_
            rintro e w8 ⟨v8, rfl, o8, b8⟩
            obtain ⟨a8, c8, rfl, r8, -⟩ := o8.rd
            have B8 := Lib.hid (B7.out.trans (b8.mono B7.out.size))
            have hl3 : (notF []).length ≤ 2 := by rw [m4_is]; decide
            have hz3 := ranges_size (notF [])
            have RC := Lib.hid (rowsRC a8 (notF []) c8 w8 r8 (by omega))
            clear b8 r8 o8
            generalize hb3 : bsR (rangesR (notF [])) = s3 at hz3 RC
            have HB3 := Lib.hid hb3
            have hz4 : s3.size ≤ 40 := by omega
            clear hb3
            go_wp2_with fail
            refine RC.out.mono ?_
            rintro e w9 ⟨rfl, b9⟩
            have B9 := Lib.hid (B8.out.trans (b9.mono B8.out.size))
            clear b9 RC
            go_wp2_with fail
            go_ret2
            refine ⟨?_, B9.out⟩
            rw [← E3.out, bsR_app, bsR_app, HB3.out]
            rfl
          · have hne : r ≠ [] := fun e => h0 (by rw [e]; rfl)
            have hnr : ¬ (r.length = 1 ∧ lo0 r = (r.getD 0 (0, 0)).2) := fun hh => by
              have := HSG.out
              have h2 := hh.2
              unfold lo0 at h2
              unfold rSingle at this
              rw [decide_eq_true hh.1, decide_eq_true h2] at this
              cases this
            have e1 := E2.out
            rw [if_neg hne, if_neg hnr] at e1
            have E3 := Lib.hid e1
            have n0 : ((r.length : Int) == 0) = false := by rw [beq_eq_false_iff_ne]; omega
            have hz3 := ranges_size r
            have RC := Lib.hid (rowsRC y.a r y.c w7 RL7.out (by omega))
            clear e1 E2 hne hnr h0
            generalize hb3 : bsR (rangesR r) = s3 at hz3 RC
            have HB3 := Lib.hid hb3
            have hz4 : s3.size ≤ 40000000 := by omega
            clear hb3
            go_wp2_with fail
            refine RC.out.mono ?_
            rintro e w9 ⟨rfl, b9⟩
            have B9 := Lib.hid (B7.out.trans (b9.mono B7.out.size))
            clear b9 RC
            go_wp2_with fail
            go_ret2
            refine ⟨?_, B9.out⟩
            rw [← E3.out, bsR_app, bsR_app, HB3.out]
            rfl
        · rw [hsg] at SI
          obtain ⟨g1, o1, hya, hl1, q1⟩ := single_at RL.out hsg
          have hsr : r.length = 1 ∧ lo0 r = (r.getD 0 (0, 0)).2 := by
            unfold rSingle at hsg
            simp only [Bool.and_eq_true, decide_eq_true_eq] at hsg
            exact ⟨hsg.1, hsg.2⟩
          have e1 := E2.out
          rw [if_neg (fun e => by rw [e] at hl1; simp at hl1), if_pos hsr] at e1
          have E3 := Lib.hid e1
          have SG := Lib.hid (fun w => signRC (lo0 r) w)
          have hl1' : 0 < r.length := by omega
          rw [hya] at d1' SI
          clear e1 E2 hsr hsg hl1 hya
          generalize lo0 r = x at q1 SG E3
          go_wp2_with fail
          refine SI.out.mono ?_
          rintro e w7 ⟨rfl, n7, rfl⟩
          have q1' : (w6.drewN n7).cell? ⟨g1, o1, none⟩ = some (.int .i32 x) := q1
          have d1 : (w6.drewN n7).cell? ⟨Nb, 1, none⟩ = some (.slice (some ⟨g1, o1, none⟩) r.length y.c) := d1'
          have B7 := Lib.hid (drewN_below B6.out n7)
          clear d1' q1 B6 SI RL
          generalize w6.drewN n7 = w7 at q1' d1 B7 ⊢
          go_wp2_with fail
          refine (SG.out _).mono ?_
          rintro e w8 ⟨rfl, rfl⟩
          go_wp2_with fail
          go_ret2
          exact ⟨by rw [← E3.out]; rfl, B7.out⟩
  | rep e h1 h2 h3 hk0 =>
    subst hk0
    have ho : y.x.op = 5 := by rw [e]; rfl
    have e1 := HT.out
    have hw' : rKids (rWalk (ls.map NdV.x) n) 1 (a + 1) = some b := HW.out
    rw [rKids] at hw'
    split at hw'
    · cases hw'
    rename_i c hcw
    have hcb : c = b := by simpa [rKids] using hw'
    subst hcb
    obtain ⟨hal, hk1, hk8⟩ := RO.out _ _ hcw
    rw [List.length_map] at hal
    rw [if_neg (by omega), if_neg (by omega), if_neg (by omega), if_pos ho] at e1
    have q1 := OC.out w5 B1.out bb off rfl (a + 1) hal
    generalize hk : ((ls.map NdV.x).getD (a + 1) (nd 0)).op = k at q1 hk1 hk8
    have ek : (kidR (ls.map NdV.x) (textR (ls.map NdV.x) n) 5 (a + 1)).1 = wrapR (boundB 5 k) (textR (ls.map NdV.x) n (a + 1)).1 := by rw [← hk]; rfl
    rw [ek] at e1
    have E1 := Lib.hid e1
    have KK := Lib.hid (KC (a + 1) c w5 hcw B1.out)
    have hzk : (bsR (textR (ls.map NdV.x) n (a + 1)).1).size ≤ 40000000000 := by
      have h5 := bsR_size (textR (ls.map NdV.x) n (a + 1)).1
      have h6 := congrArg List.length e1
      have h7 : (textR (ls.map NdV.x) n (a + 1)).1.length ≤ (wrapR (boundB 5 k) (textR (ls.map NdV.x) n (a + 1)).1).length := wrap_le _ _
      simp only [List.length_append] at h6
      omega
    have hzs : (bsR (sizesR y.x)).size ≤ 48 := by have := bsR_size (sizesR y.x); have := sizes_len y.x; omega
    have BK := Lib.hid (bound5 hk1 hk8)
    have i1 : (a : Int) + 1 < (ls.length : Int) := by omega
    have s3 : ((a : Int) + 1).toNat = a + 1 := by omega
    have HO := Lib.hid ho
    rw [ho] at d0
    clear e1 HT HW hw' e hcw ek hk
    generalize (textR (ls.map NdV.x) n (a + 1)).1 = tk at KK E1 hzk
    go_wp2_with fail
    refine KK.out.mono ?_
    rintro e w6 ⟨rfl, b6⟩
    have B6 := Lib.hid (B0.out.trans (b6.mono B0.out.size))
    have B6W := Lib.hid (B1.out.trans (b6.mono B1.out.size))
    have NB6 := Lib.hid ((b6.block Nb (heap_lt NB.out)).trans NB.out)
    clear b6 KK d0 d1 d2 d3 d4 d5 d6 q1 s3 B0 B1 NB i1
    generalize hsk : bsR tk = sk at hzk ⊢
    have HSK := Lib.hid hsk
    clear hsk
    go_upto_region 34 with fail
    go_cut [156] (fun bv wx => bv = .bool (boundB 5 k) ∧ wx = w6)
    case first =>
      have hk := BK.out
      have HK := Lib.hid hk
      clear hk BK
      obtain h | h | h | h | h | h | h | h : k = 1 ∨ k = 2 ∨ k = 3 ∨ k = 4 ∨ k = 5 ∨ k = 6 ∨ k = 7 ∨ k = 8 := by omega
      all_goals
        subst h
        clear hk1 hk8
        go_wp2_with fail
        go_meet
        exact ⟨by rw [HK.out]; rfl, rfl⟩
    case rest =>
      obtain ⟨rfl, hwc⟩ := hcut
      subst hwc
      go_upto_if 156 with fail
      go_cut [13] (fun xv wx => xv = .string (bsR (wrapR (boundB 5 k) tk)) ∧ wx = wc)
      case first =>
        clear BK
        have WB := wrap_bytes (boundB 5 k) tk
        rw [HSK.out] at WB
        cases hbk : boundB 5 k
        · rw [hbk] at WB
          have HBK := Lib.hid hbk
          have WB2 := Lib.hid WB
          clear hbk WB
          go_wp2_with fail
          go_meet
          exact ⟨by rw [HBK.out, WB2.out]; rfl, rfl⟩
        · rw [hbk] at WB
          have HBK := Lib.hid hbk
          have WB2 := Lib.hid WB
          clear hbk WB
          go_wp2_with fail
          go_meet
          exact ⟨by rw [HBK.out, WB2.out]; rfl, rfl⟩
      case rest =>
        obtain ⟨rfl, hwc⟩ := hcut
        subst hwc
        have hz5 : (bsR (wrapR (boundB 5 k) tk)).size ≤ 80000000000 := by
          have h5 := bsR_size (wrapR (boundB 5 k) tk)
          have h6 := congrArg List.length E1.out
          simp only [List.length_append] at h6
          omega
        have E2 := Lib.hid (show bsR (wrapR (boundB 5 k) tk) ++ bsR (sizesR y.x) = bsR t by rw [← bsR_app, E1.out])
        have TC : Hid (Calls Tryz.prog 47 #[.agg #[.int .i64 5, .slice y.a y.n y.c, .int .i64 y.x.mn, .int .i64 y.x.mx, .bool y.x.lz, .int .i64 y.x.cap, .int .i64 y.x.kids]] wc fun e w2 => e = .returned (.string (bsR (sizesR y.x))) ∧ Below wc.heap.size wc w2) := Lib.hid (by
          have := timesRC y h1 h2 h3 wc (hTab.kept B6W.out)
          simp only [agN, HO.out] at this
          exact this)
        have d0 := cell_of_obj (o := 0) (u := .int .i64 y.x.op) NB6.out rfl
        rw [HO.out] at d0
        have d1 := cell_of_obj (o := 1) (u := .slice y.a y.n y.c) NB6.out rfl
        have d6 := cell_of_obj (o := 6) (u := .int .i64 y.x.kids) NB6.out rfl
        have d2 := cell_of_obj (o := 2) (u := .int .i64 y.x.mn) NB6.out rfl
        have d3 := cell_of_obj (o := 3) (u := .int .i64 y.x.mx) NB6.out rfl
        have d4 := cell_of_obj (o := 4) (u := .bool y.x.lz) NB6.out rfl
        have d5 := cell_of_obj (o := 5) (u := .int .i64 y.x.cap) NB6.out rfl
        clear E1 BK HSK
        generalize bsR (wrapR (boundB 5 k) tk) = sw at hz5 E2 ⊢
        generalize bsR (sizesR y.x) = ss at hzs E2 TC
        go_wp2_with fail
        refine TC.out.mono ?_
        rintro e w7 ⟨rfl, b7⟩
        have B7 := Lib.hid (B6.out.trans (b7.mono B6.out.size))
        clear b7
        go_wp2_with fail
        go_ret2
        exact ⟨by rw [← E2.out]; rfl, B7.out⟩
  | grp e h1 h2 hk0 =>
    subst hk0
    have ho : y.x.op = 6 := by rw [e]; rfl
    have e1 := HT.out
    have hw' : rKids (rWalk (ls.map NdV.x) n) 1 (a + 1) = some b := HW.out
    rw [rKids] at hw'
    split at hw'
    · cases hw'
    rename_i c hcw
    have hcb : c = b := by simpa [rKids] using hw'
    subst hcb
    obtain ⟨hal, hk1, hk8⟩ := RO.out _ _ hcw
    rw [List.length_map] at hal
    rw [if_neg (by omega), if_neg (by omega), if_neg (by omega), if_neg (by omega), if_pos ho] at e1
    have ek : (kidR (ls.map NdV.x) (textR (ls.map NdV.x) n) 6 (a + 1)).1 = (textR (ls.map NdV.x) n (a + 1)).1 := by
      unfold kidR
      rw [bound6]
      rfl
    rw [ek] at e1
    have E1 := Lib.hid e1
    have KK := Lib.hid (KC (a + 1) c w5 hcw B1.out)
    have hzk : (bsR (textR (ls.map NdV.x) n (a + 1)).1).size ≤ 40000000000 := by
      have h5 := bsR_size (textR (ls.map NdV.x) n (a + 1)).1
      have h6 := congrArg List.length e1
      simp only [List.length_append] at h6
      omega
    rw [ho] at d0
    clear e1 HT HW hw' e hcw d1 d2 d3 d4 d5 d6 ho ek
    generalize (textR (ls.map NdV.x) n (a + 1)).1 = tk at KK E1 hzk
    go_wp2_with fail
    refine KK.out.mono ?_
    rintro e w6 ⟨rfl, b6⟩
    have B6 := Lib.hid (B0.out.trans (b6.mono B0.out.size))
    clear b6 KK
    generalize hsk : bsR tk = sk at hzk ⊢
    have HSK := Lib.hid hsk
    clear hsk
    go_wp2_with fail
    go_ret2
    refine ⟨?_, B6.out⟩
    rw [← E1.out, bsR_app, bsR_app, HSK.out]
    rfl
  | many hop e h2 hk0 =>
    subst hk0
    obtain ⟨m, hm⟩ : ∃ m : Nat, y.x.kids = (m : Int) + 1 := ⟨(y.x.kids - 1).toNat, by omega⟩
    have hmn : y.x.kids.toNat = m + 1 := by omega
    have hmn2 : (y.x.kids - 1).toNat = m := by omega
    have e1 := HT.out
    have hw' := HW.out
    have hwf := hw'
    rw [hmn] at hwf
    rw [hmn, rKids] at hw'
    split at hw'
    · cases hw'
    rename_i c hcw
    have hm1 : m ≤ 1000000 := by
      have hb1 := rWalk_bd _ _ _ _ hcw
      have hb2 := rKids_bd _ (rWalk_bd _ n) _ _ _ hb1.2 hw'
      have hkk : ∀ (k c b : Nat), rKids (rWalk (ls.map NdV.x) n) k c = some b → c + k ≤ b := by
        intro k
        induction k with
        | zero =>
          intro c b h
          have : c = b := by simpa [rKids] using h
          omega
        | succ k ih =>
          intro c b h
          rw [rKids] at h
          split at h
          · cases h
          · rename_i d hd
            have := (rWalk_bd _ _ _ _ hd).1
            have := ih d b h
            omega
      have := hkk m c b hw'
      rw [List.length_map] at hb2
      omega
    have hk2 : ∀ over, (kidR (ls.map NdV.x) (textR (ls.map NdV.x) n) over (a + 1)).2 = c := fun over => text_end _ n (a + 1) c hcw
    rw [if_neg (by omega), if_neg (by omega), if_neg (by omega), if_neg (by omega), if_neg (by omega), if_pos hop] at e1
    simp only [hk2, hmn2] at e1
    clear HT HW hmn hmn2 d1 d2 d3 d4 d5 e
    rcases hop with ho | ho
    · rw [ho, if_neg (by decide)] at e1
      have KS := Lib.hid (show KidsAt (ls.map NdV.x) n 3 [] (a + 1) m t 0 [] (a + 1) from .inl ⟨rfl, rfl, rfl, by simp only [hk2]; exact e1⟩)
      have RK0 : Hid (rKids (rWalk (ls.map NdV.x) n) (m + 1) (a + 1) = some b) := Lib.hid hwf
      have HO := Lib.hid ho
      have HM := Lib.hid hm
      rw [ho] at d0
      clear e1 hw' hcw ho hk2 hm hwf d6
      go_wp2_with fail
      clear d0
      go_loopg [1, 7, 8] (m + 1) (fun gh x1 x7 x8 wr => ∃ (j : Nat) (pre : List Int) (a2 : Nat) (s : ByteArray), j ≤ m + 1 ∧ gh = m + 1 - j ∧ x1 = .int .i64 a2 ∧ x7 = .string s ∧ x8 = .int .i64 j ∧ s = bsR pre ∧ KidsAt (ls.map NdV.x) n 3 [] (a + 1) m t j pre a2 ∧ rKids (rWalk (ls.map NdV.x) n) (m + 1 - j) a2 = some b ∧ s.size ≤ 40000000000 ∧ wr.heap[Nb]? = some (ncell y) ∧ Below W.heap.size W wr ∧ Below w.heap.size w wr)
      case atStart => exact ⟨0, [], a + 1, ⟨#[]⟩, Nat.zero_le _, rfl, by go_num, rfl, rfl, rfl, KS.out, RK0.out, by decide, NB.out, B1.out, B0.out⟩
      case round =>
        clear KS RK0 NB B1 B0
        obtain ⟨j, pre, a2, s, hj, rfl, rfl, rfl, rfl, hs, hks, hrk, hzs, nb7, b7, k7⟩ := hrel
        have HSs := Lib.hid hs
        have KS := Lib.hid hks
        have RK := Lib.hid hrk
        have NB7 := Lib.hid nb7
        have B7 := Lib.hid b7
        have K7 := Lib.hid k7
        have d6 : wr.cell? ⟨Nb, 6, none⟩ = some (.int .i64 ((m : Int) + 1)) := by rw [← HM.out]; exact cell_of_obj (o := 6) (u := .int .i64 y.x.kids) nb7 rfl
        clear hs hks hrk nb7 b7 k7
        by_cases hlt : j < m + 1
        · have i1 : (j : Int) < (m : Int) + 1 := by omega
          have hrk := RK.out
          obtain ⟨q, hq⟩ : ∃ q, m + 1 - j = q + 1 := ⟨m - j, by omega⟩
          rw [hq, rKids] at hrk
          split at hrk
          · cases hrk
          rename_i c2 hc2
          obtain ⟨hal, hk1, hk8⟩ := RO.out _ _ hc2
          rw [List.length_map] at hal
          have q1 := OC.out wr B7.out bb off rfl a2 hal
          have hst := kidsAt_step KS.out hlt
          have hk3 : (kidR (ls.map NdV.x) (textR (ls.map NdV.x) n) 3 a2).2 = c2 := text_end _ n a2 c2 hc2
          rw [hk3] at hst
          generalize hk : ((ls.map NdV.x).getD a2 (nd 0)).op = k at q1 hk1 hk8
          have ek : (kidR (ls.map NdV.x) (textR (ls.map NdV.x) n) 3 a2).1 = wrapR (boundB 3 k) (textR (ls.map NdV.x) n a2).1 := by rw [← hk]; rfl
          rw [ek] at hst
          have ST := Lib.hid hst
          have KK := Lib.hid (KC a2 c2 wr hc2 B7.out)
          have RK2 : Hid (rKids (rWalk (ls.map NdV.x) n) (m + 1 - (j + 1)) c2 = some b) := Lib.hid (by rw [show m + 1 - (j + 1) = q by omega]; exact hrk)
          have hz2 : (bsR (textR (ls.map NdV.x) n a2).1).size ≤ 40000000000 := by
            have h5 := bsR_size (textR (ls.map NdV.x) n a2).1
            have h6 := hst.2
            have h7 : (textR (ls.map NdV.x) n a2).1.length ≤ (wrapR (boundB 3 k) (textR (ls.map NdV.x) n a2).1).length := wrap_le _ _
            simp only [List.length_append] at h6
            omega
          have i3 : (a2 : Int) < (ls.length : Int) := by omega
          clear hst hrk hk3 hc2 ek hk RK KS hq
          generalize (textR (ls.map NdV.x) n a2).1 = tk at KK ST hz2
          go_wp2_with fail
          refine KK.out.mono ?_
          rintro e w8 ⟨rfl, b8⟩
          have NB8 := Lib.hid ((b8.block Nb (heap_lt NB7.out)).trans NB7.out)
          have B8 := Lib.hid (B7.out.trans (b8.mono B7.out.size))
          have K8 := Lib.hid (K7.out.trans (b8.mono K7.out.size))
          clear b8 KK B7 K7 NB7 q1 d6
          have d0 : w8.cell? ⟨Nb, 0, none⟩ = some (.int .i64 3) := by rw [← HO.out]; exact cell_of_obj (o := 0) (u := .int .i64 y.x.op) NB8.out rfl
          generalize hsk : bsR tk = sk at hz2 ⊢
          have HSK := Lib.hid hsk
          clear hsk
          go_upto_region 24 with fail
          go_cut [107] (fun bv wx => bv = .bool (boundB 3 k) ∧ wx = w8)
          case first =>
            obtain h | h | h | h | h | h | h | h : k = 1 ∨ k = 2 ∨ k = 3 ∨ k = 4 ∨ k = 5 ∨ k = 6 ∨ k = 7 ∨ k = 8 := by omega
            all_goals
              subst h
              clear hk1 hk8
              go_wp2_with fail
              go_meet
              exact ⟨by rw [bound3]; rfl, rfl⟩
          case rest =>
            obtain ⟨rfl, hwc⟩ := hcut
            subst hwc
            go_upto_if 107 with fail
            go_cut [10] (fun xv wx => xv = .string (bsR (wrapR (boundB 3 k) tk)) ∧ wx = wc)
            case first =>
              have WB := wrap_bytes (boundB 3 k) tk
              rw [HSK.out] at WB
              cases hbk : boundB 3 k
              · rw [hbk] at WB
                have HBK := Lib.hid hbk
                have WB2 := Lib.hid WB
                clear hbk WB
                go_wp2_with fail
                go_meet
                exact ⟨by rw [HBK.out, WB2.out]; rfl, rfl⟩
              · rw [hbk] at WB
                have HBK := Lib.hid hbk
                have WB2 := Lib.hid WB
                clear hbk WB
                go_wp2_with fail
                go_meet
                exact ⟨by rw [HBK.out, WB2.out]; rfl, rfl⟩
            case rest =>
              obtain ⟨rfl, hwc⟩ := hcut
              subst hwc
              clear HSK
              have hzw : (bsR (wrapR (boundB 3 k) tk)).size ≤ 80000000000 := by
                have h5 := bsR_size (wrapR (boundB 3 k) tk)
                have h6 := ST.out.2
                simp only [List.length_append] at h6
                omega
              generalize wrapR (boundB 3 k) tk = tw at ST hzw ⊢
              generalize hsw : bsR tw = sw at hzw ⊢
              have HSW := Lib.hid hsw
              have SE : Hid (bsR (pre ++ (if j = 0 then [] else []) ++ tw) = s ++ (if j = 0 then (⟨#[]⟩ : ByteArray) else bsR []) ++ sw) := Lib.hid (by
                rw [bsR_app, bsR_app, hsw, ← HSs.out]
                by_cases h0 : j = 0
                · rw [if_pos h0, if_pos h0]; rfl
                · rw [if_neg h0, if_neg h0])
              clear hsw
              have SZ : (s ++ (if j = 0 then (⟨#[]⟩ : ByteArray) else bsR []) ++ sw).size ≤ 40000000000 := by
                rw [← SE.out]
                have h5 := bsR_size (pre ++ (if j = 0 then [] else []) ++ tw)
                have h6 := ST.out.2
                omega
              have SZh := Lib.hid SZ
              clear SZ
              by_cases h0 : j = 0
              · subst h0
                have e0 : s ++ (if (0 : Nat) = 0 then (⟨#[]⟩ : ByteArray) else bsR []) ++ sw = s ++ sw := by rw [if_pos rfl, ba_nil]
                have E0 := Lib.hid e0
                clear e0
                go_wp2_with fail
                go_roundg (m + 1 - (0 + 1))
                case measure => omega
                case rel => exact ⟨0 + 1, _, c2, s ++ sw, by omega, rfl, rfl, rfl, by go_num, by rw [SE.out, E0.out], ST.out.1, RK2.out, by rw [← E0.out]; exact SZh.out, NB8.out, B8.out, K8.out⟩
              · have n0 : ¬ ((j : Int) = 0) := by omega
                have g0 : (0 : Int) < (j : Int) := by omega
                have e0 : s ++ (if j = 0 then (⟨#[]⟩ : ByteArray) else bsR []) ++ sw = s ++ sw := by rw [if_neg h0]; rw [show bsR [] = (⟨#[]⟩ : ByteArray) from rfl, ba_nil]
                have E0 := Lib.hid e0
                clear e0 h0
                go_wp2_with fail
                go_roundg (m + 1 - (j + 1))
                case measure => omega
                case rel => exact ⟨j + 1, _, c2, s ++ sw, by omega, rfl, rfl, rfl, by go_num, by rw [SE.out, E0.out], ST.out.1, RK2.out, by rw [← E0.out]; exact SZh.out, NB8.out, B8.out, K8.out⟩
        · obtain rfl : j = m + 1 := by omega
          have i1 : ¬ (((m + 1 : Nat) : Int)) < (m : Int) + 1 := by omega
          have hrk := RK.out
          rw [Nat.sub_self] at hrk
          have e3 : a2 = b := by simpa [rKids] using hrk
          subst e3
          have e4 := kidsAt_end KS.out
          have E4 := Lib.hid e4
          clear hrk e4 RK KS
          go_wp2_with fail
          go_ret2
          exact ⟨by rw [← E4.out, ← HSs.out]; rfl, K7.out⟩
    · rw [ho, if_pos rfl] at e1
      have KS := Lib.hid (show KidsAt (ls.map NdV.x) n 4 [124] (a + 1) m t 0 [] (a + 1) from .inl ⟨rfl, rfl, rfl, by simp only [hk2]; exact e1⟩)
      have RK0 : Hid (rKids (rWalk (ls.map NdV.x) n) (m + 1) (a + 1) = some b) := Lib.hid hwf
      have HO := Lib.hid ho
      have HM := Lib.hid hm
      rw [ho] at d0
      clear e1 hw' hcw ho hk2 hm hwf d6
      go_wp2_with fail
      clear d0
      go_loopg [1, 7, 8] (m + 1) (fun gh x1 x7 x8 wr => ∃ (j : Nat) (pre : List Int) (a2 : Nat) (s : ByteArray), j ≤ m + 1 ∧ gh = m + 1 - j ∧ x1 = .int .i64 a2 ∧ x7 = .string s ∧ x8 = .int .i64 j ∧ s = bsR pre ∧ KidsAt (ls.map NdV.x) n 4 [124] (a + 1) m t j pre a2 ∧ rKids (rWalk (ls.map NdV.x) n) (m + 1 - j) a2 = some b ∧ s.size ≤ 40000000000 ∧ wr.heap[Nb]? = some (ncell y) ∧ Below W.heap.size W wr ∧ Below w.heap.size w wr)
      case atStart => exact ⟨0, [], a + 1, ⟨#[]⟩, Nat.zero_le _, rfl, by go_num, rfl, rfl, rfl, KS.out, RK0.out, by decide, NB.out, B1.out, B0.out⟩
      case round =>
        clear KS RK0 NB B1 B0
        obtain ⟨j, pre, a2, s, hj, rfl, rfl, rfl, rfl, hs, hks, hrk, hzs, nb7, b7, k7⟩ := hrel
        have HSs := Lib.hid hs
        have KS := Lib.hid hks
        have RK := Lib.hid hrk
        have NB7 := Lib.hid nb7
        have B7 := Lib.hid b7
        have K7 := Lib.hid k7
        have d6 : wr.cell? ⟨Nb, 6, none⟩ = some (.int .i64 ((m : Int) + 1)) := by rw [← HM.out]; exact cell_of_obj (o := 6) (u := .int .i64 y.x.kids) nb7 rfl
        clear hs hks hrk nb7 b7 k7
        by_cases hlt : j < m + 1
        · have i1 : (j : Int) < (m : Int) + 1 := by omega
          have hrk := RK.out
          obtain ⟨q, hq⟩ : ∃ q, m + 1 - j = q + 1 := ⟨m - j, by omega⟩
          rw [hq, rKids] at hrk
          split at hrk
          · cases hrk
          rename_i c2 hc2
          obtain ⟨hal, hk1, hk8⟩ := RO.out _ _ hc2
          rw [List.length_map] at hal
          have q1 := OC.out wr B7.out bb off rfl a2 hal
          have hst := kidsAt_step KS.out hlt
          have hk3 : (kidR (ls.map NdV.x) (textR (ls.map NdV.x) n) 4 a2).2 = c2 := text_end _ n a2 c2 hc2
          rw [hk3] at hst
          generalize hk : ((ls.map NdV.x).getD a2 (nd 0)).op = k at q1 hk1 hk8
          have ek : (kidR (ls.map NdV.x) (textR (ls.map NdV.x) n) 4 a2).1 = wrapR (boundB 4 k) (textR (ls.map NdV.x) n a2).1 := by rw [← hk]; rfl
          rw [ek] at hst
          have ST := Lib.hid hst
          have KK := Lib.hid (KC a2 c2 wr hc2 B7.out)
          have RK2 : Hid (rKids (rWalk (ls.map NdV.x) n) (m + 1 - (j + 1)) c2 = some b) := Lib.hid (by rw [show m + 1 - (j + 1) = q by omega]; exact hrk)
          have hz2 : (bsR (textR (ls.map NdV.x) n a2).1).size ≤ 40000000000 := by
            have h5 := bsR_size (textR (ls.map NdV.x) n a2).1
            have h6 := hst.2
            have h7 : (textR (ls.map NdV.x) n a2).1.length ≤ (wrapR (boundB 4 k) (textR (ls.map NdV.x) n a2).1).length := wrap_le _ _
            simp only [List.length_append] at h6
            omega
          have i3 : (a2 : Int) < (ls.length : Int) := by omega
          clear hst hrk hk3 hc2 ek hk RK KS hq
          generalize (textR (ls.map NdV.x) n a2).1 = tk at KK ST hz2
          go_wp2_with fail
          refine KK.out.mono ?_
          rintro e w8 ⟨rfl, b8⟩
          have NB8 := Lib.hid ((b8.block Nb (heap_lt NB7.out)).trans NB7.out)
          have B8 := Lib.hid (B7.out.trans (b8.mono B7.out.size))
          have K8 := Lib.hid (K7.out.trans (b8.mono K7.out.size))
          clear b8 KK B7 K7 NB7 q1 d6
          have d0 : w8.cell? ⟨Nb, 0, none⟩ = some (.int .i64 4) := by rw [← HO.out]; exact cell_of_obj (o := 0) (u := .int .i64 y.x.op) NB8.out rfl
          generalize hsk : bsR tk = sk at hz2 ⊢
          have HSK := Lib.hid hsk
          clear hsk
          go_upto_region 24 with fail
          go_cut [107] (fun bv wx => bv = .bool (boundB 4 k) ∧ wx = w8)
          case first =>
            obtain h | h | h | h | h | h | h | h : k = 1 ∨ k = 2 ∨ k = 3 ∨ k = 4 ∨ k = 5 ∨ k = 6 ∨ k = 7 ∨ k = 8 := by omega
            all_goals
              subst h
              clear hk1 hk8
              go_wp2_with fail
              go_meet
              exact ⟨by rw [bound4]; rfl, rfl⟩
          case rest =>
            obtain ⟨rfl, hwc⟩ := hcut
            subst hwc
            go_upto_if 107 with fail
            go_cut [10] (fun xv wx => xv = .string (bsR (wrapR (boundB 4 k) tk)) ∧ wx = wc)
            case first =>
              have WB := wrap_bytes (boundB 4 k) tk
              rw [HSK.out] at WB
              cases hbk : boundB 4 k
              · rw [hbk] at WB
                have HBK := Lib.hid hbk
                have WB2 := Lib.hid WB
                clear hbk WB
                go_wp2_with fail
                go_meet
                exact ⟨by rw [HBK.out, WB2.out]; rfl, rfl⟩
              · rw [hbk] at WB
                have HBK := Lib.hid hbk
                have WB2 := Lib.hid WB
                clear hbk WB
                go_wp2_with fail
                go_meet
                exact ⟨by rw [HBK.out, WB2.out]; rfl, rfl⟩
            case rest =>
              obtain ⟨rfl, hwc⟩ := hcut
              subst hwc
              clear HSK
              have hzw : (bsR (wrapR (boundB 4 k) tk)).size ≤ 80000000000 := by
                have h5 := bsR_size (wrapR (boundB 4 k) tk)
                have h6 := ST.out.2
                simp only [List.length_append] at h6
                omega
              generalize wrapR (boundB 4 k) tk = tw at ST hzw ⊢
              generalize hsw : bsR tw = sw at hzw ⊢
              have HSW := Lib.hid hsw
              have SE : Hid (bsR (pre ++ (if j = 0 then [] else [124]) ++ tw) = s ++ (if j = 0 then (⟨#[]⟩ : ByteArray) else bsR [124]) ++ sw) := Lib.hid (by
                rw [bsR_app, bsR_app, hsw, ← HSs.out]
                by_cases h0 : j = 0
                · rw [if_pos h0, if_pos h0]; rfl
                · rw [if_neg h0, if_neg h0])
              clear hsw
              have SZ : (s ++ (if j = 0 then (⟨#[]⟩ : ByteArray) else bsR [124]) ++ sw).size ≤ 40000000000 := by
                rw [← SE.out]
                have h5 := bsR_size (pre ++ (if j = 0 then [] else [124]) ++ tw)
                have h6 := ST.out.2
                omega
              have SZh := Lib.hid SZ
              clear SZ
              by_cases h0 : j = 0
              · subst h0
                have e0 : s ++ (if (0 : Nat) = 0 then (⟨#[]⟩ : ByteArray) else bsR [124]) ++ sw = s ++ sw := by rw [if_pos rfl, ba_nil]
                have E0 := Lib.hid e0
                clear e0
                go_wp2_with fail
                go_roundg (m + 1 - (0 + 1))
                case measure => omega
                case rel => exact ⟨0 + 1, _, c2, s ++ sw, by omega, rfl, rfl, rfl, by go_num, by rw [SE.out, E0.out], ST.out.1, RK2.out, by rw [← E0.out]; exact SZh.out, NB8.out, B8.out, K8.out⟩
              · have n0 : ¬ ((j : Int) = 0) := by omega
                have g0 : (0 : Int) < (j : Int) := by omega
                have e0 : s ++ (if j = 0 then (⟨#[]⟩ : ByteArray) else bsR [124]) ++ sw = s ++ ⟨#[124]⟩ ++ sw := by rw [if_neg h0]; rfl
                have E0 := Lib.hid e0
                clear e0 h0
                go_wp2_with fail
                go_roundg (m + 1 - (j + 1))
                case measure => omega
                case rel => exact ⟨j + 1, _, c2, s ++ ⟨#[124]⟩ ++ sw, by omega, rfl, rfl, rfl, by go_num, by rw [SE.out, E0.out], ST.out.1, RK2.out, by rw [← E0.out]; exact SZh.out, NB8.out, B8.out, K8.out⟩
        · obtain rfl : j = m + 1 := by omega
          have i1 : ¬ (((m + 1 : Nat) : Int)) < (m : Int) + 1 := by omega
          have hrk := RK.out
          rw [Nat.sub_self] at hrk
          have e3 : a2 = b := by simpa [rKids] using hrk
          subst e3
          have e4 := kidsAt_end KS.out
          have E4 := Lib.hid e4
          clear hrk e4 RK KS
          go_wp2_with fail
          go_ret2
          exact ⟨by rw [← E4.out, ← HSs.out]; rfl, K7.out⟩
theorem show_all (N : Nrd W la lc ls) (hlen : ls.length ≤ 480) (hTab : Tab W) : ∀ n, ShowC W la lc ls n
  | 0 => fun _ _ _ h _ => nomatch h
  | n + 1 => showRC N hlen hTab (show_all N hlen hTab n)
end
end Go.Proofs.YtooockbfagkknaaGreatDoor.syn
