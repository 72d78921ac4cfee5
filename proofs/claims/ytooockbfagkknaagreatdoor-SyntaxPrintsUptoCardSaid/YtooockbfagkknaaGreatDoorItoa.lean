/- strconv.Itoa of what a repeat bears; sizes, walked. -/
import Derived.Test.YtooockbfagkknaaGreatDoorShow2
import Derived.Lib.LaidTab
import Derived.Lib.AppendIntMem
import Derived.StillTailTactics
namespace Go.Proofs.YtooockbfagkknaaGreatDoor.syn
open Go.RowKit Go.Proofs.YtooockbfagkknaaGreatDoor.sl Go.Proofs.YtooockbfagkknaaGreatDoor.cls
/-- The table that strconv reads. -/
abbrev Tab (w : World) : Prop := Lib.TabIs Tryz.prog w "internal/strconv.uint64pow10" .u64 Lib.pow10Tab
theorem gTab : Tryz.prog.globalNamed "internal/strconv.uint64pow10" = some 0 := by kernel_rfl
theorem Tab.kept {w w' : World} (h : Tab w) (hb : Below w.heap.size w w') : Tab w' := by
  unfold Tab Lib.TabIs World.var? at h ⊢
  rw [gTab] at h ⊢
  simp only [Option.bind_some] at h ⊢
  have hlt : 0 < w.heap.size := by
    rcases Nat.lt_or_ge 0 w.heap.size with h' | h'
    · exact h'
    · rw [Array.getElem?_eq_none h'] at h; cases h
  rw [hb.block _ hlt]
  exact h
theorem utf_dig : ∀ d : Fin 10, utfB (48 + (d.val : Int)) = [UInt8.ofNat (48 + d.val)] := by decide +kernel
theorem bsL_dig (d : Nat) (h : d < 10) : bsL [48 + (d : Int)] = [UInt8.ofNat (48 + d)] := by
  have := utf_dig ⟨d, h⟩
  simp only [bsL, List.flatMap_cons, List.flatMap_nil, List.append_nil]
  exact this
theorem dec_dgs (m : Nat) (h : m < 100) : Lib.decDigits m = bsL (dgs m) := by
  have one : ∀ d, d < 10 → Lib.decDigits d = [UInt8.ofNat (48 + d)] := fun d hd => by rw [Lib.decDigits, dif_pos hd]
  unfold dgs
  by_cases h1 : m < 10
  · rw [if_pos h1, one m h1, bsL_dig m h1]
  · rw [if_neg h1, Lib.decDigits, dif_neg h1, one _ (by omega), show ([48 + ((m / 10 : Nat) : Int), 48 + ((m % 10 : Nat) : Int)] : List Int) = [48 + ((m / 10 : Nat) : Int)] ++ [48 + ((m % 10 : Nat) : Int)] from rfl, bsL_app, bsL_dig _ (by omega), bsL_dig _ (by omega)]
theorem itoaS (n : Int) (h0 : 0 ≤ n) (h1 : n ≤ 30) (w : World) : Calls Tryz.prog 62 #[.int .i64 n] w fun e w' => e = .returned (.string (bsR (itR n))) ∧ w' = w := by
  obtain ⟨m, rfl⟩ : ∃ m : Nat, n = m := ⟨n.toNat, by omega⟩
  have e : bsR (itR (m : Int)) = ⟨(Lib.decDigits m).toArray⟩ := by
    unfold bsR itR
    rw [if_neg (by omega), dec_dgs m (by omega)]
    simp
  rw [e]
  exact Tryz.strconv_Itoa_small m (by omega) w
theorem itoaM (w : World) (h : Tab w) : Calls Tryz.prog 62 #[.int .i64 (-1)] w fun e w' => e = .returned (.string (bsR (itR (-1)))) ∧ Below w.heap.size w w' := by
  refine (Tryz.strconv_Itoa (-1) (by decide) (by decide) w h).mono ?_
  rintro e w' ⟨rfl, k, os, rfl⟩
  refine ⟨?_, Lib.below_grow _ _ (Nat.le_refl _) _ _⟩
  have e1 : Lib.itoa (-1) = bsL (itR (-1)) := by
    have e2 : Lib.itoa (-1) = 45 :: Lib.decDigits 1 := by unfold Lib.itoa; rw [if_pos (by decide)]; rfl
    rw [e2, dec_dgs 1 (by decide)]
    decide +kernel
  rw [e1]
  rfl
theorem it_size (n : Int) (_h0 : -1 ≤ n) (_h1 : n ≤ 30) : (bsR (itR n)).size ≤ 12 := by
  have h2 := bsR_size (itR n)
  have h3 : (itR n).length ≤ 3 := by
    unfold itR dgs
    split <;> split <;> simp
  omega
theorem sizes_bytes (x : Nd) : bsR (sizesR x) = (if x.mn = 0 ∧ x.mx = -1 then ⟨#[42]⟩ else if x.mn = 1 ∧ x.mx = -1 then ⟨#[43]⟩ else if x.mn = 0 ∧ x.mx = 1 then ⟨#[63]⟩
    else if x.mx = -1 then ⟨#[123]⟩ ++ bsR (itR x.mn) ++ ⟨#[44, 125]⟩ else if x.mn = x.mx then ⟨#[123]⟩ ++ bsR (itR x.mn) ++ ⟨#[125]⟩
    else ⟨#[123]⟩ ++ bsR (itR x.mn) ++ ⟨#[44]⟩ ++ bsR (itR x.mx) ++ ⟨#[125]⟩) ++ (if x.lz then ⟨#[63]⟩ else ⟨#[]⟩) := by
  unfold sizesR
  rw [bsR_app]
  congr 1
  · repeat' split
    all_goals (try simp only [bsR_app])
    all_goals rfl
  · split <;> rfl
set_option maxHeartbeats 4000000 in
set_option maxRecDepth 100000 in
theorem sizesC (y : NdV) (h1 : 0 ≤ y.x.mn) (h2 : y.x.mn ≤ 30) (h3 : y.x.mx = -1 ∨ (y.x.mn ≤ y.x.mx ∧ y.x.mx ≤ 30)) (w : World) (ht : Tab w) : Calls Tryz.prog 41 #[agN y] w fun e w' => e = .returned (.string (bsR (sizesR y.x))) ∧ Below w.heap.size w w' := by
  obtain ⟨⟨op, r, mn, mx, lz, cap, kids⟩, a, n, c⟩ := y
  simp only at h1 h2 h3
  suffices key : ∀ s, bsR (sizesR ⟨op, r, mn, mx, lz, cap, kids⟩) = s → Calls Tryz.prog 41 #[.agg #[.int .i64 op, .slice a n c, .int .i64 mn, .int .i64 mx, .bool lz, .int .i64 cap, .int .i64 kids]] w fun e w' => e = .returned (.string s) ∧ Below w.heap.size w w' from key _ rfl
  intro s hs
  have HS := Lib.hid hs
  have HT := Lib.hid ht
  clear hs ht
  have z1 := it_size mn (by omega) h2
  have z2 := it_size mx (by omega) (by omega)
  have b0 := (Below.refl w.heap.size w).alloc (Nat.le_refl _) (.cells #[.int .i64 op, .slice a n c, .int .i64 mn, .int .i64 mx, .bool lz, .int .i64 cap, .int .i64 kids] 35)
  have nb0 := heap_alloc_new w (.cells #[.int .i64 op, .slice a n c, .int .i64 mn, .int .i64 mx, .bool lz, .int .i64 cap, .int .i64 kids] 35)
  have B0 := Lib.hid b0
  have NB0 := Lib.hid nb0
  have TW := Lib.hid (HT.out.kept b0)
  clear b0 nb0 HT
  go_enter Tryz.func41, Tryz.ntmps41
  go_upto_region 1 with fail
  generalize (w.alloc (.cells #[.int .i64 op, .slice a n c, .int .i64 mn, .int .i64 mx, .bool lz, .int .i64 cap, .int .i64 kids] 35)) = w1 at B0 NB0 TW ⊢
  generalize w.heap.size = Nb at NB0 ⊢
  have d2 := cell_of_obj (o := 2) (u := .int .i64 mn) NB0.out rfl
  have d3 := cell_of_obj (o := 3) (u := .int .i64 mx) NB0.out rfl
  go_cut [3, 4] (fun s3 s4 wx => s3 = .string (bsR (itR mn)) ∧ s4 = .string (bsR (itR mx)) ∧ Below w.heap.size w wx ∧ wx.heap[Nb]? = some (.cells #[.int .i64 op, .slice a n c, .int .i64 mn, .int .i64 mx, .bool lz, .int .i64 cap, .int .i64 kids] 35))
  case first =>
    by_cases hx : mx = -1
    · subst hx
      go_region_with (first | (go_at_call 62; (with_reducible refine (itoaS mn h1 h2 _).mono ?_); rintro e w4 ⟨rfl, rfl⟩) | (go_at_call 62; (with_reducible refine (itoaM _ (TW.out.kept (below_drew (Below.refl _ _)))).mono ?_); rintro e w4 ⟨rfl, b4⟩))
      all_goals (go_wp2_with fail)
      all_goals go_meet
      all_goals exact ⟨rfl, rfl, (drewN_below B0.out 1).trans (b4.mono B0.out.size), (b4.block Nb (heap_lt NB0.out)).trans NB0.out⟩
    · have hx0 : 0 ≤ mx := by omega
      have hx1 : mx ≤ 30 := by omega
      go_quiet ((go_at_call 62; exact Calls.quiet_of_same (itoaS _ (by omega) (by omega) _)))
      go_wp2_with fail
      go_meet
      exact ⟨rfl, rfl, drewN_below B0.out _, NB0.out⟩
  case rest =>
    obtain ⟨rfl, rfl, b2, nb2⟩ := hcut
    have B2 := Lib.hid b2
    have d2 := cell_of_obj (o := 2) (u := .int .i64 mn) nb2 rfl
    have d3 := cell_of_obj (o := 3) (u := .int .i64 mx) nb2 rfl
    have d4 := cell_of_obj (o := 4) (u := .bool lz) nb2 rfl
    clear b2 nb2 B0 NB0 TW
    have SZ := HS.out
    rw [sizes_bytes] at SZ
    simp only at SZ
    generalize bsR (itR mn) = s1 at z1 SZ ⊢
    generalize bsR (itR mx) = s2 at z2 SZ ⊢
    have SZ2 := Lib.hid SZ
    clear SZ HS
    have e0 : ∀ x : ByteArray, x ++ (⟨#[]⟩ : ByteArray) = x := fun x => ByteArray.append_empty
    cases lz
    all_goals (go_wp2_with fail)
    all_goals go_ret
    all_goals refine ⟨?_, B2.out⟩
    all_goals rw [← SZ2.out]
    all_goals simp only [beq_iff_eq, beq_eq_false_iff_ne, ne_eq] at *
    all_goals (repeat first | rw [if_pos (by omega)] | rw [if_neg (by omega)])
    all_goals simp only [Bool.false_eq_true, if_false, if_true, e0]
    all_goals first | rfl | trace_state
end Go.Proofs.YtooockbfagkknaaGreatDoor.syn
