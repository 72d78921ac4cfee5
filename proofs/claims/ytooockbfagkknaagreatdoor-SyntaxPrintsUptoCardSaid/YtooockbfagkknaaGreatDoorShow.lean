/- bound, shown, ranges, walked. -/
import Derived.Test.YtooockbfagkknaaGreatDoorPln
import Derived.Test.YtooockbfagkknaaGreatDoorPar1
import Derived.Laws.Cover4
namespace Go.Proofs.YtooockbfagkknaaGreatDoor.syn
open Go.RowKit Go.Proofs.YtooockbfagkknaaGreatDoor.sl Go.Proofs.YtooockbfagkknaaGreatDoor.cls
/-- A rune's bytes. -/
def utfB (r : Int) : List UInt8 := (Utf8.encode r).data.toList
/-- The bytes of runes. -/
def bsL (rs : List Int) : List UInt8 := rs.flatMap utfB
def bsR (rs : List Int) : ByteArray := ⟨(bsL rs).toArray⟩
theorem bsL_app (x y : List Int) : bsL (x ++ y) = bsL x ++ bsL y := by simp [bsL]
theorem ba_app (x y : List UInt8) : (⟨x.toArray⟩ : ByteArray) ++ ⟨y.toArray⟩ = ⟨(x ++ y).toArray⟩ := by
  apply ByteArray.ext
  simp
theorem bsR_app (x y : List Int) : bsR (x ++ y) = bsR x ++ bsR y := by
  unfold bsR
  rw [bsL_app, ba_app]
theorem bsR_one (r : Int) : bsR [r] = Utf8.encode r := by
  apply ByteArray.ext
  simp [bsR, bsL, utfB]
set_option maxHeartbeats 2000000 in
theorem boundC (over kid : Int) (w : World) : Calls Tryz.prog 61 #[.int .i64 over, .int .i64 kid] w fun e w' => e = .returned (.bool (boundB over kid)) ∧ w' = w := by
  suffices key : ∀ b, boundB over kid = b → Calls Tryz.prog 61 #[.int .i64 over, .int .i64 kid] w fun e w' => e = .returned (.bool b) ∧ w' = w from key _ rfl
  intro b hb
  have HB := Lib.hid hb
  clear hb
  unfold boundB at HB
  go_enter Tryz.func61, Tryz.ntmps61
  go_wp2_with fail
  all_goals (go_ret; refine ⟨congrArg _ ?_, rfl⟩; rw [← HB.out]; show Value.bool _ = Value.bool _; congr 1)
  all_goals (rw [Bool.eq_iff_iff]; simp_all)
theorem bsR_size (rs : List Int) : (bsR rs).size ≤ 4 * rs.length := by
  induction rs with
  | nil => exact Nat.le_refl 0
  | cons r rs ih =>
    have e : bsR (r :: rs) = Utf8.encode r ++ bsR rs := by rw [← bsR_one, ← bsR_app]; rfl
    have := encode_size_le r
    rw [e, ByteArray.size_append, List.length_cons]
    omega
theorem shown_len (r : Int) : (shownR r).length ≤ 2 := by
  rcases shown_cases r with ⟨c, e, _⟩ | ⟨e, _⟩ <;> rw [e] <;> simp
theorem shown_size (r : Int) : (bsR (shownR r)).size ≤ 8 := by have := bsR_size (shownR r); have := shown_len r; omega
set_option maxHeartbeats 2000000 in
theorem shownC (r : Int) (w : World) : Calls Tryz.prog 60 #[.int .i32 r] w fun e w' => e = .returned (.string (bsR (shownR r))) ∧ w' = w := by
  have MC := Lib.hid (markC r w)
  have hz := encode_size_le r
  by_cases h1 : r = 10
  · subst h1
    go_enter Tryz.func60, Tryz.ntmps60
    go_wp2_with fail
    go_ret
    exact ⟨rfl, rfl⟩
  have n1 : (r == 10) = false := by simpa using h1
  by_cases h2 : r = 9
  · subst h2
    go_enter Tryz.func60, Tryz.ntmps60
    go_wp2_with fail
    go_ret
    exact ⟨rfl, rfl⟩
  have n2 : (r == 9) = false := by simpa using h2
  by_cases h3 : r = 13
  · subst h3
    go_enter Tryz.func60, Tryz.ntmps60
    go_wp2_with fail
    go_ret
    exact ⟨rfl, rfl⟩
  have n3 : (r == 13) = false := by simpa using h3
  have E : Hid (shownR r = if markB r then [92, r] else [r]) := Lib.hid (by unfold shownR; rw [if_neg h1, if_neg h2, if_neg h3])
  clear h1 h2 h3
  generalize markB r = mk at MC E
  go_enter Tryz.func60, Tryz.ntmps60
  cases mk
  · go_wp2_with (go_at_call 75; refine MC.out.mono ?_; rintro e w' ⟨rfl, rfl⟩)
    go_ret
    refine ⟨?_, rfl⟩
    show Ending.returned (Value.string (Utf8.encode r)) = _
    rw [E.out, ← bsR_one]
    rfl
  · go_wp2_with (go_at_call 75; refine MC.out.mono ?_; rintro e w' ⟨rfl, rfl⟩)
    go_ret
    refine ⟨?_, rfl⟩
    show Ending.returned (Value.string (⟨#[92]⟩ ++ Utf8.encode r)) = Ending.returned (Value.string (bsR (shownR r)))
    rw [show shownR r = [92] ++ [r] from E.out, bsR_app, bsR_one r]
    rfl
theorem rangeR_size (x : Rg) : (bsR (rangeR x)).size ≤ 20 := by
  have h1 := bsR_size (rangeR x)
  have h2 := shown_len x.1
  have h3 := shown_len x.2
  have h4 : (rangeR x).length ≤ 5 := by
    unfold rangeR
    split <;> simp <;> omega
  omega
theorem ranges_step {l : List Rg} {k : Nat} {x : Rg} (hx : l[k]? = some x) : bsR (rangesR (l.take (k + 1))) = bsR (rangesR (l.take k)) ++ bsR (rangeR x) := by
  unfold rangesR
  rw [take_flat rangeR hx, bsR_app]
set_option maxHeartbeats 4000000 in
set_option maxRecDepth 100000 in
theorem rangesC (a : Option Addr) (l : List Rg) (cap : Nat) (w : World) (h : Rd er w a l cap) (hl : l.length ≤ 100000000) : Calls Tryz.prog 58 #[.slice a l.length cap] w fun e w' => e = .returned (.string (bsR (rangesR l))) ∧ Below w.heap.size w w' := by
  have hm := h.max
  have hle := h.le
  unfold maxLen at hm
  have H := Lib.hid h
  clear h
  go_enter Tryz.func58, Tryz.ntmps58
  go_wp2_with fail
  go_loopg [3, 8] l.length (fun g o i wr => ∃ (k : Nat) (s : ByteArray), k ≤ l.length ∧ g = l.length - k ∧ i = .int .i64 k ∧ o = .string s ∧ s = bsR (rangesR (l.take k)) ∧ s.size ≤ 20 * k ∧ Below w.heap.size w wr)
  case atStart => exact ⟨0, ⟨#[]⟩, by omega, rfl, rfl, rfl, rfl, by decide, Below.refl _ _⟩
  case round =>
    obtain ⟨k, s, hk, rfl, rfl, rfl, hs, hz, hb⟩ := hrel
    have HS := Lib.hid hs
    have BB := Lib.hid hb
    clear hs hb
    by_cases hlt : k < l.length
    · obtain ⟨x, hx⟩ : ∃ x, l[k]? = some x := ⟨_, List.getElem?_eq_getElem hlt⟩
      obtain ⟨b1, o1, rfl, hbl, c0, c1⟩ := Rd.pair (H.out.kept BB.out) hx
      have HX := Lib.hid (ranges_step hx)
      clear hx
      have i1 : (k : Int) < (l.length : Int) := by omega
      obtain ⟨lo, hi⟩ := x
      simp only at c0 c1
      have z1 := shown_size lo
      have z2 := shown_size hi
      have S1 := Lib.hid (fun w => shownC lo w)
      have S2 := Lib.hid (fun w => shownC hi w)
      have RE : Hid (bsR (rangeR (lo, hi)) = if lo < hi then bsR (shownR lo) ++ (bsR [45] ++ bsR (shownR hi)) else bsR (shownR lo)) := Lib.hid (by
        unfold rangeR
        by_cases hh : lo < hi
        · rw [if_pos hh, if_pos hh, bsR_app, show (45 : Int) :: shownR hi = [45] ++ shownR hi from rfl, bsR_app]
        · rw [if_neg hh, if_neg hh, List.append_nil])
      have RZ := rangeR_size (lo, hi)
      have HXZ : Hid ((bsR (rangeR (lo, hi))).size ≤ 20) := Lib.hid RZ
      clear RZ
      have B2 := Lib.hid (BB.out.alloc BB.out.size (.cells #[.int .i32 lo, .int .i32 hi] 58))
      generalize bsR (shownR lo) = s1 at z1 S1 RE
      generalize bsR (shownR hi) = s2 at z2 S2 RE
      by_cases hh : lo < hi
      · rw [if_pos hh] at RE
        go_wp2_with fail
        refine (S1.out _).mono ?_
        rintro e w' ⟨rfl, rfl⟩
        go_wp2_with fail
        refine (S2.out _).mono ?_
        rintro e w' ⟨rfl, rfl⟩
        go_wp2_with fail
        go_roundg (l.length - (k + 1))
        case measure => omega
        case rel =>
          refine ⟨k + 1, _, by omega, rfl, by go_num, rfl, ?_, ?_, B2.out⟩
          · show s ++ s1 ++ (bsR [45] ++ s2) = _
            rw [HX.out, RE.out, ← HS.out, ByteArray.append_assoc]
          · have e : s ++ s1 ++ (⟨#[45]⟩ ++ s2) = s ++ bsR (rangeR (lo, hi)) := by rw [RE.out, ByteArray.append_assoc]; rfl
            rw [e, ByteArray.size_append]
            have := HXZ.out
            omega
      · rw [if_neg hh] at RE
        have hh2 : hi ≤ lo := by omega
        go_wp2_with fail
        refine (S1.out _).mono ?_
        rintro e w' ⟨rfl, rfl⟩
        go_wp2_with fail
        go_roundg (l.length - (k + 1))
        case measure => omega
        case rel =>
          refine ⟨k + 1, _, by omega, rfl, by go_num, rfl, ?_, ?_, B2.out⟩
          · rw [HX.out, RE.out, ← HS.out]
          · rw [← RE.out, ByteArray.size_append]
            have := HXZ.out
            omega
    · obtain rfl : k = l.length := by omega
      go_wp2_with fail
      go_ret
      refine ⟨?_, BB.out⟩
      have := HS.out
      rw [List.take_length] at this
      rw [← this]
      rfl
end Go.Proofs.YtooockbfagkknaaGreatDoor.syn
