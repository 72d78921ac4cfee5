/- (*walk).one, walked. -/
import Derived.Test.YtooockbfagkknaaGreatDoorNrd
import Derived.Deep.RegionHeld3
import Derived.Deep.RegionWith
namespace Go.Proofs.YtooockbfagkknaaGreatDoor.syn
open Go.RowKit Go.Proofs.YtooockbfagkknaaGreatDoor.sl Go.Proofs.YtooockbfagkknaaGreatDoor.cls
/-- What one answers stays within the list. -/
theorem kidsGo_le (f : Nat → Nat → Bool × Nat × Nat) (m : Nat) (hf : ∀ a g, a ≤ m → g ≤ a → (f a g).2.1 ≤ m ∧ (f a g).2.2 ≤ (f a g).2.1) : ∀ (k a g : Nat), a ≤ m → g ≤ a → (kidsGo f k a g).2.1 ≤ m ∧ (kidsGo f k a g).2.2 ≤ (kidsGo f k a g).2.1
  | 0, a, g, h, h2 => ⟨h, h2⟩
  | k + 1, a, g, h, h2 => by
    rw [kidsGo]
    split
    · exact hf a g h h2
    · exact kidsGo_le f m hf k _ _ (hf a g h h2).1 (hf a g h h2).2
theorem oneF_le (L : List Nd) : ∀ (n a g : Nat), a ≤ L.length → g ≤ a → (oneF L n a g).2.1 ≤ L.length ∧ (oneF L n a g).2.2 ≤ (oneF L n a g).2.1
  | 0, a, g, h, h2 => ⟨h, h2⟩
  | n + 1, a, g, h, h2 => by
    rw [oneF]
    split
    · exact ⟨h, h2⟩
    · split
      · exact ⟨h, h2⟩
      · exact kidsGo_le _ _ (fun a g h h2 => oneF_le L n a g h h2) _ _ _ (by omega) (by split <;> omega)
theorem shapedF_fst (x : Nd) (g : Int) (hk : x.kids ≤ 9223372036854775807) (h : (shapedF x g).2 = true) : 0 ≤ (shapedF x g).1 ∧ (shapedF x g).1 ≤ 9223372036854775807 := by
  revert h
  unfold shapedF
  repeat' split
  all_goals (intro h; simp at h ⊢; try omega)
def OnePost (W : World) (P : Nat) (la : Option Addr) (n lc : Nat) (r : Bool × Nat × Nat) (e : Ending) (w' : World) : Prop :=
  e = .returned (.bool r.1) ∧ w'.heap[P]? = some (.cells #[.slice la n lc, .int .i64 r.2.1, .int .i64 r.2.2] 64) ∧ Below W.heap.size W w'
set_option maxHeartbeats 8000000 in
set_option maxRecDepth 100000 in
theorem oneC (W : World) (P : Nat) (la : Option Addr) (lc : Nat) (ls : List NdV) (N : Nrd W la lc ls) (hP : W.heap.size ≤ P) (hlen : ls.length ≤ 1000000) : ∀ (n ab : Nat), ab + n = 241 → ∀ (a g : Nat) (w : World), a ≤ ls.length → g ≤ a →
    w.heap[P]? = some (.cells #[.slice la ls.length lc, .int .i64 a, .int .i64 g] 64) → Below W.heap.size W w →
    Calls Tryz.prog 26 #[.pointer (some ⟨P, 0, none⟩), .int .i64 ab] w (OnePost W P la ls.length lc (oneF (ls.map NdV.x) n a g)) := by
  intro n
  induction n with
  | zero =>
    intro ab hab a g w ha hg ob b
    have c0 := cell_of_obj (o := 0) (u := .slice la ls.length lc) ob rfl
    have c1 := cell_of_obj (o := 1) (u := .int .i64 a) ob rfl
    have i1 : (240 : Int) < (ab : Int) := by omega
    have OB := Lib.hid ob
    have B := Lib.hid b
    clear ob b
    have e1 : oneF (ls.map NdV.x) 0 a g = (false, a, g) := rfl
    rw [e1]
    by_cases hal : ls.length ≤ a
    · have i2 : (ls.length : Int) ≤ (a : Int) := by omega
      go_enter Tryz.func26, Tryz.ntmps26
      go_wp2_with fail
      go_quiet (fail)
      go_wp2_with fail
      go_ret
      exact ⟨rfl, OB.out, B.out.trans (drewN_below (Below.refl _ _) _)⟩
    · have i2 : (a : Int) < (ls.length : Int) := by omega
      go_enter Tryz.func26, Tryz.ntmps26
      go_wp2_with fail
      go_quiet (fail)
      go_wp2_with fail
      go_ret
      exact ⟨rfl, OB.out, B.out.trans (drewN_below (Below.refl _ _) _)⟩
  | succ n ih =>
    intro ab hab a g w ha hg ob b
    have c0 := cell_of_obj (o := 0) (u := .slice la ls.length lc) ob rfl
    have c1 := cell_of_obj (o := 1) (u := .int .i64 a) ob rfl
    have c2 := cell_of_obj (o := 2) (u := .int .i64 g) ob rfl
    have i1 : ¬ (240 : Int) < (ab : Int) := by omega
    have OB := Lib.hid ob
    have B := Lib.hid b
    clear ob b
    suffices key : ∀ r, oneF (ls.map NdV.x) (n + 1) a g = r → Calls Tryz.prog 26 #[.pointer (some ⟨P, 0, none⟩), .int .i64 ab] w (OnePost W P la ls.length lc r) from key _ rfl
    intro r hr
    have HQ := Lib.hid hr
    clear hr
    by_cases hal : ls.length ≤ a
    · have i2 : (ls.length : Int) ≤ (a : Int) := by omega
      have e1 := HQ.out
      rw [oneF, if_pos (by simpa using hal)] at e1
      have E1 := Lib.hid e1
      clear e1 HQ
      go_enter Tryz.func26, Tryz.ntmps26
      go_wp2_with fail
      go_quiet (fail)
      go_wp2_with fail
      go_ret
      rw [← E1.out]
      exact ⟨rfl, OB.out, B.out.trans (drewN_below (Below.refl _ _) _)⟩
    · have i2 : (a : Int) < (ls.length : Int) := by omega
      obtain ⟨y, hy⟩ : ∃ y, ls[a]? = some y := ⟨_, List.getElem?_eq_getElem (by omega)⟩
      have hgd : (ls.map NdV.x).getD a (nd 0) = y.x := by simp [List.getD_eq_getElem?_getD, hy]
      have e1 := HQ.out
      rw [oneF, if_neg (by simpa using hal), hgd] at e1
      have E1 := Lib.hid e1
      have HY := Lib.hid hy
      have YE := Lib.hid (N.each y (List.mem_of_getElem? hy))
      clear e1 HQ hy hgd
      go_enter Tryz.func26, Tryz.ntmps26
      go_wp2_with fail
      go_quiet (fail)
      have OB2 : Hid ((w.drewN nq).heap[P]? = some (.cells #[.slice la ls.length lc, .int .i64 a, .int .i64 g] 64)) := Lib.hid OB.out
      have B2 := Lib.hid (B.out.trans (drewN_below (Below.refl W.heap.size w) nq))
      clear OB B c0 c1 c2
      generalize w.drewN nq = w2 at OB2 B2 ⊢
      have c0 := cell_of_obj (o := 0) (u := .slice la ls.length lc) OB2.out rfl
      have c1 := cell_of_obj (o := 1) (u := .int .i64 a) OB2.out rfl
      have c2 := cell_of_obj (o := 2) (u := .int .i64 g) OB2.out rfl
      obtain ⟨bb, off, rfl, hbl, hc⟩ := (N.kept B2.out).rd.cells eN_len HY.out
      have q0 := hc 0 (.int .i64 y.x.op) (by omega) rfl
      have q1 := hc 1 (.slice y.a y.n y.c) (by omega) rfl
      have q2 := hc 2 (.int .i64 y.x.mn) (by omega) rfl
      have q3 := hc 3 (.int .i64 y.x.mx) (by omega) rfl
      have q4 := hc 4 (.bool y.x.lz) (by omega) rfl
      have q5 := hc 5 (.int .i64 y.x.cap) (by omega) rfl
      have q6 := hc 6 (.int .i64 y.x.kids) (by omega) rfl
      simp only [Nat.add_zero] at q0
      simp only [← Nat.add_assoc] at q1 q2 q3 q4 q5 q6
      clear hc
      go_wp2_with fail
      go_region_held3 (fun w' => w'.cell? ⟨P, 0, none⟩ = some (.slice (some ⟨bb, off, none⟩) ls.length lc) ∧ w'.cell? ⟨P, 1, none⟩ = some (.int .i64 a) ∧ w'.cell? ⟨bb, off + a * 7, none⟩ = some (.int .i64 y.x.op) ∧ w'.cell? ⟨bb, off + a * 7 + 1, none⟩ = some (.slice y.a y.n y.c) ∧ w'.cell? ⟨bb, off + a * 7 + 2, none⟩ = some (.int .i64 y.x.mn) ∧ w'.cell? ⟨bb, off + a * 7 + 3, none⟩ = some (.int .i64 y.x.mx) ∧ w'.cell? ⟨bb, off + a * 7 + 4, none⟩ = some (.bool y.x.lz) ∧ w'.cell? ⟨bb, off + a * 7 + 5, none⟩ = some (.int .i64 y.x.cap) ∧ w'.cell? ⟨bb, off + a * 7 + 6, none⟩ = some (.int .i64 y.x.kids)) (first | exact ⟨c0, c1, q0, q1, q2, q3, q4, q5, q6⟩ | go_keep) (first | fail)
      have OB2h := OB2.out
      have OB3 := Lib.hid (copied_old OB2.out y)
      have B3 := Lib.hid (copied_below B2.out B2.out.size y)
      have NB3 := Lib.hid (copied_new w2 y)
      clear OB2 B2 c0 c1 c2 q0 q1 q2 q3 q4 q5 q6
      have hPN : P < w2.heap.size := heap_lt OB2h
      generalize w2.heap.size = Nb at NB3 hPN ⊢
      clear OB2h
      generalize (w2.alloc (ncell y)).drew = w3 at OB3 B3 NB3 ⊢
      have c1 := cell_of_obj (o := 1) (u := .int .i64 a) OB3.out rfl
      have c2 := cell_of_obj (o := 2) (u := .int .i64 g) OB3.out rfl
      have d0 := cell_of_obj (o := 0) (u := .int .i64 y.x.op) NB3.out rfl
      have d1 := cell_of_obj (o := 1) (u := .slice y.a y.n y.c) NB3.out rfl
      have d2 := cell_of_obj (o := 2) (u := .int .i64 y.x.mn) NB3.out rfl
      have d3 := cell_of_obj (o := 3) (u := .int .i64 y.x.mx) NB3.out rfl
      have d4 := cell_of_obj (o := 4) (u := .bool y.x.lz) NB3.out rfl
      have d5 := cell_of_obj (o := 5) (u := .int .i64 y.x.cap) NB3.out rfl
      have d6 := cell_of_obj (o := 6) (u := .int .i64 y.x.kids) NB3.out rfl
      go_upto_region 5 with fail
      go_cut [6, 7] (fun s6 s7 wx => s6 = .int .i64 (shapedF y.x g).1 ∧ s7 = .bool (shapedF y.x g).2 ∧ Below W.heap.size W wx ∧ wx.heap[P]? = some (.cells #[.slice (some ⟨bb, off, none⟩) ls.length lc, .int .i64 a, .int .i64 g] 64) ∧ wx.heap[Nb]? = some (ncell y))
      case first =>
        go_region_with (go_at_call 38; refine (shapedC y YE.out.1 g ⟨by omega, by omega⟩ _ (YE.out.2.1.kept (drewN_below B3.out 1)) YE.out.2.2.1).mono ?_; rintro e w4 ⟨rfl, b4⟩)
        all_goals (go_wp2_with fail)
        all_goals go_meet
        all_goals exact ⟨rfl, rfl, (drewN_below B3.out 1).trans (b4.mono B3.out.size), (b4.block P (heap_lt OB3.out)).trans OB3.out, (b4.block Nb (heap_lt NB3.out)).trans NB3.out⟩
      case rest =>
        obtain ⟨rfl, rfl, b5, ob5, nb5⟩ := hcut
        have OB4 := Lib.hid ob5
        have B4 := Lib.hid b5
        have NB4 := Lib.hid nb5
        clear ob5 b5 nb5 c1 c2 d0 d1 d2 d3 d4 d5 d6 OB3 B3 NB3
        have SF := Lib.hid (shapedF_fst y.x g YE.out.2.2.2)
        generalize shapedF y.x (g : Int) = sh at E1 SF ⊢
        obtain ⟨kk, ok⟩ := sh
        have e1 := E1.out
        cases ok
        · rw [if_pos rfl] at e1
          have E2 := Lib.hid e1
          clear e1 E1 SF
          go_wp2_with fail
          go_ret
          rw [← E2.out]
          exact ⟨rfl, OB4.out, B4.out⟩
        · obtain ⟨hk0, hk1⟩ := SF.out rfl
          obtain ⟨k, rfl⟩ : ∃ k : Nat, kk = k := ⟨kk.toNat, by simp only at hk0; omega⟩
          rw [if_neg (by simp)] at e1
          simp only [Int.toNat_natCast] at e1
          have hkm : k ≤ 9223372036854775807 := by simp only at hk1; omega
          have E2 := Lib.hid e1
          clear e1 E1 SF hk0 hk1
          have c1 := cell_of_obj (o := 1) (u := .int .i64 a) OB4.out rfl
          have f1 : wc.frozen? ⟨P, 1, none⟩ = false := frozen_of_obj OB4.out
          go_upto_region 8 with fail
          have OB5 : Hid ((wc.setCell ⟨P, 1, none⟩ (.int .i64 ((a : Int) + 1))).heap[P]? = some (.cells #[.slice (some ⟨bb, off, none⟩) ls.length lc, .int .i64 ((a + 1 : Nat) : Int), .int .i64 g] 64)) := Lib.hid (obj_set OB4.out)
          have B5 := Lib.hid (B4.out.setCell (p := ⟨P, 1, none⟩) hP (.int .i64 ((a : Int) + 1)))
          have NB5 := Lib.hid ((Below.heap_setCell wc ⟨P, 1, none⟩ (.int .i64 ((a : Int) + 1)) Nb (by simp; omega)).trans NB4.out)
          clear OB4 B4 NB4 c1 f1
          generalize wc.setCell ⟨P, 1, none⟩ (.int .i64 ((a : Int) + 1)) = w5 at OB5 B5 NB5 ⊢
          have d0 := cell_of_obj (o := 0) (u := .int .i64 y.x.op) NB5.out rfl
          have c2 := cell_of_obj (o := 2) (u := .int .i64 g) OB5.out rfl
          have f2 : w5.frozen? ⟨P, 2, none⟩ = false := frozen_of_obj OB5.out
          go_upto_if 52 with fail
          go_cut [4] (fun s4 wx => s4 = .bool false ∧ ∃ g2 : Nat, g2 = (if y.x.op = 6 then g + 1 else g) ∧ Below W.heap.size W wx ∧ wx.heap[P]? = some (.cells #[.slice (some ⟨bb, off, none⟩) ls.length lc, .int .i64 ((a + 1 : Nat) : Int), .int .i64 g2] 64))
          case first =>
            by_cases h6 : y.x.op = 6
            · have n6 : (y.x.op == 6) = true := by simpa using h6
              go_wp2_with fail
              go_meet
              refine ⟨rfl, g + 1, by rw [if_pos h6], B5.out.setCell (p := ⟨P, 2, none⟩) hP (.int .i64 ((g : Int) + 1)), ?_⟩
              rw [obj_set OB5.out]
              rfl
            · have n6 : (y.x.op == 6) = false := by simpa using h6
              go_wp2_with fail
              go_meet
              exact ⟨rfl, g, by rw [if_neg h6], B5.out, OB5.out⟩
          case rest =>
            obtain ⟨rfl, g2, hg2, b6, ob6⟩ := hcut
            have e2 := E2.out
            rw [← hg2] at e2
            have hgg : g2 ≤ a + 1 := by rw [hg2]; split <;> omega
            have E3 := Lib.hid e2
            have OB6 := Lib.hid ob6
            have B6 := Lib.hid b6
            clear e2 E2 hg2 ob6 b6 d0 c2 f2 OB5 B5 NB5
            go_wp2_with fail
            go_loopg [6] k (fun m s6 wr => ∃ a2 g2 : Nat, s6 = .int .i64 m ∧ m ≤ k ∧ a2 ≤ ls.length ∧ g2 ≤ a2 ∧ kidsGo (oneF (ls.map NdV.x) n) m a2 g2 = r ∧ Below W.heap.size W wr ∧ wr.heap[P]? = some (.cells #[.slice (some ⟨bb, off, none⟩) ls.length lc, .int .i64 a2, .int .i64 g2] 64))
            case atStart => exact ⟨a + 1, g2, rfl, Nat.le_refl _, by omega, hgg, E3.out, B6.out, OB6.out⟩
            case round =>
              clear OB6 B6 E3
              obtain ⟨a3, g3, rfl, hmk, ha3, hg3, hr3, hb3, ho3⟩ := hrel
              have R3 := Lib.hid hr3
              have B3 := Lib.hid hb3
              have O3 := Lib.hid ho3
              clear hr3 hb3 ho3
              have hle := oneF_le (ls.map NdV.x) n a3 g3 (by simpa using ha3) hg3
              simp only [List.length_map] at hle
              obtain ⟨hle1, hle2⟩ := hle
              by_cases hz : gk = 0
              · subst hz
                go_wp2_with fail
                go_ret
                rw [← R3.out]
                exact ⟨rfl, O3.out, B3.out⟩
              · obtain ⟨m, rfl⟩ : ∃ m, gk = m + 1 := ⟨gk - 1, by omega⟩
                have CH := Lib.hid (ih (ab + 1) (by omega) a3 g3 _ ha3 hg3 O3.out B3.out)
                have r3 := R3.out
                rw [kidsGo] at r3
                have R4 := Lib.hid r3
                clear r3 R3 ih
                have i3 : (0 : Int) < ((m + 1 : Nat) : Int) := by omega
                go_wp2_with fail
                refine CH.out.mono ?_
                generalize oneF (ls.map NdV.x) n a3 g3 = q at R4 hle1 hle2 ⊢
                rintro e w7 ⟨rfl, o7, b7⟩
                have O7 := Lib.hid o7
                have B7 := Lib.hid b7
                clear o7 b7 B3 O3 CH hz
                obtain ⟨qb, qa, qg⟩ := q
                cases qb
                · go_wp2_with fail
                  go_ret
                  rw [← R4.out]
                  exact ⟨rfl, O7.out, B7.out⟩
                · go_wp2_with fail
                  go_roundg m
                  case measure => omega
                  case rel => exact ⟨qa, qg, by go_num, by omega, hle1, hle2, R4.out, B7.out, O7.out⟩
end Go.Proofs.YtooockbfagkknaaGreatDoor.syn
