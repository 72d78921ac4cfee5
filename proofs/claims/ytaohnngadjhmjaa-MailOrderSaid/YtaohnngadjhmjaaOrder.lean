/- MailOrder returns true; what was there stays. -/
import Derived.Test.YtaohnngadjhmjaaRuns
import Derived.Deep.LoopGhost
import Derived.Deep.DeepCutAuto
namespace Go.Proofs.Ytaohnngadjhmjaa.mail
open Go.Conc Go.RowKit
variable {B : Nat} {w : World} {L : List BoxS}
/-- What the box holds: pairs whose first parts count on from n. -/
def qs (n : Nat) : List Int → List Value
  | [] => []
  | y :: t => .agg #[.int .i64 n, .int .i64 y] :: qs (n + 1) t
theorem qs_len (n : Nat) (l : List Int) : (qs n l).length = l.length := by induction l generalizing n <;> simp_all [qs]
theorem qs_snoc (n : Nat) (l : List Int) (y : Int) : qs n (l ++ [y]) = qs n l ++ [.agg #[.int .i64 ((n + l.length : Nat) : Int), .int .i64 y]] := by
  induction l generalizing n with
  | nil => simp [qs]
  | cons x t ih => simp only [List.cons_append, qs, ih, List.length_cons]; rw [show n + 1 + t.length = n + (t.length + 1) by omega]
/-- An integer slice that came in. -/
def IntsAt (B : Nat) (w : World) (a : Option Addr) (l : List Int) : Prop :=
  ∀ i, i < l.length → ∃ b off, a = some ⟨b, off, none⟩ ∧ b < B ∧ w.cell? ⟨b, off + i, none⟩ = some (.int .i64 (l.getD i 0)) ∧ -9223372036854775808 ≤ l.getD i 0 ∧ l.getD i 0 ≤ 9223372036854775807
theorem IntsAt.get {w' : World} {a : Option Addr} {l : List Int} (h : IntsAt B w a l) (hb : Below B w w') {i : Nat} (hi : i < l.length) : ∃ b off, a = some ⟨b, off, none⟩ ∧ w'.cell? ⟨b, off + i, none⟩ = some (.int .i64 (l.getD i 0)) ∧ -9223372036854775808 ≤ l.getD i 0 ∧ l.getD i 0 ≤ 9223372036854775807 := by
  obtain ⟨b, off, h1, h2, h3, h4⟩ := h i hi
  exact ⟨b, off, h1, (hb.cell (p := ⟨b, off + i, none⟩) h2).trans h3, h4⟩
/-- Where the box stands: what of it came (nx), what it holds. -/
def Inv (B : Nat) (w : World) (T : TypeId) (b c : Nat) (w0 : World) (cl : Bool) (nx : Nat) (ys : List Int) : Prop :=
  Boxes B w [⟨T, b, c, 9, qs nx ys, cl⟩] ∧ Below B w0 w ∧ B ≤ w.heap.size ∧ ys.length ≤ 9
theorem Inv.send {T : TypeId} {b c : Nat} {w0 : World} {cl : Bool} {x : Nat} {ys : List Int} (I : Inv B w T b c w0 cl x ys) (v : Int) :
    Calls Try.prog 18 #[.pointer (some ⟨b, 0, none⟩), .agg #[.int .i64 ((x + ys.length : Nat) : Int), .int .i64 v]] w fun e w' => ∃ ok, e = .returned (.bool ok) ∧ (ok = true → cl = false ∧ Inv B w' T b c w0 cl x (ys ++ [v])) ∧ (ok = false → Inv B w' T b c w0 cl x ys) := by
  obtain ⟨H, hb, hB, hy⟩ := I
  by_cases h : cl = true ∨ 9 ≤ ys.length
  · refine (Send_cannot_arr (L := [⟨T, b, c, 9, qs x ys, cl⟩]) (i := 0) (x := ⟨T, b, c, 9, qs x ys, cl⟩) rfl H hB (by simpa [qs_len] using h) _ v).mono ?_
    rintro e w' ⟨rfl, H2, n2⟩
    exact ⟨false, rfl, by simp, fun _ => ⟨H2, hb.trans n2, size_of_below n2 hB, hy⟩⟩
  · have h1 : cl = false := by cases cl <;> simp_all
    have h2 : ys.length < 9 := by omega
    refine (Send_can_arr (L := [⟨T, b, c, 9, qs x ys, cl⟩]) (i := 0) (x := ⟨T, b, c, 9, qs x ys, cl⟩) rfl H hB h1 (by simpa [qs_len] using h2) _ v).mono ?_
    rintro e w' ⟨rfl, H2, n2⟩
    refine ⟨true, rfl, fun _ => ⟨h1, ?_, hb.trans n2, size_of_below n2 hB, by simp; omega⟩, by simp⟩
    rw [qs_snoc]
    exact H2
theorem Inv.recv_none {T : TypeId} {b c : Nat} {w0 : World} {cl : Bool} {x : Nat} (I : Inv B w T b c w0 cl x []) :
    Calls Try.prog 20 #[.pointer (some ⟨b, 0, none⟩)] w fun e w' => e = .returned (.tuple #[.agg #[.int .i64 0, .int .i64 0], .bool false]) ∧ Inv B w' T b c w0 cl x [] := by
  obtain ⟨H, hb, hB, hy⟩ := I
  refine (Recv_none_arr (L := [⟨T, b, c, 9, qs x [], cl⟩]) (i := 0) (x := ⟨T, b, c, 9, qs x [], cl⟩) rfl H hB rfl).mono ?_
  rintro e w' ⟨rfl, H2, n2⟩
  exact ⟨rfl, H2, hb.trans n2, size_of_below n2 hB, hy⟩
theorem Inv.recv_some {T : TypeId} {b c : Nat} {w0 : World} {cl : Bool} {x : Nat} {y : Int} {ys : List Int} (I : Inv B w T b c w0 cl x (y :: ys)) :
    Calls Try.prog 20 #[.pointer (some ⟨b, 0, none⟩)] w fun e w' => e = .returned (.tuple #[.agg #[.int .i64 x, .int .i64 y], .bool true]) ∧ Inv B w' T b c w0 cl (x + 1) ys := by
  obtain ⟨H, hb, hB, hy⟩ := I
  refine (Recv_some_arr (L := [⟨T, b, c, 9, qs x (y :: ys), cl⟩]) (i := 0) (x := ⟨T, b, c, 9, qs x (y :: ys), cl⟩) rfl H hB x y (q := qs (x + 1) ys) rfl).mono ?_
  rintro e w' ⟨rfl, H2, n2⟩
  exact ⟨rfl, H2, hb.trans n2, size_of_below n2 hB, by simp at hy; omega⟩
theorem Inv.kept {T : TypeId} {b c : Nat} {w0 w' : World} {cl : Bool} {x : Nat} {ys : List Int} (I : Inv B w T b c w0 cl x ys) (h : Below w.heap.size w w') : Inv B w' T b c w0 cl x ys :=
  ⟨I.1.below h (Nat.le_refl _), I.2.1.trans (h.mono I.2.2.1), Nat.le_trans I.2.2.1 h.size, I.2.2.2⟩
set_option maxHeartbeats 4000000 in
set_option maxRecDepth 100000 in
theorem order (a1 a2 : Option Addr) (l t : List Int) (k1 k2 : Nat) (cs : Int) (w : World) (hl : IntsAt w.heap.size w a1 l) (ht : IntsAt w.heap.size w a2 t)
    (m1 : l.length ≤ maxLen) (m2 : t.length ≤ maxLen) (n1 : -9223372036854775808 ≤ cs) (n2 : cs ≤ 9223372036854775807) :
    Calls Try.prog 4 #[.slice a1 l.length k1, .slice a2 t.length k2, .int .i64 cs] w fun e w' => e = .returned (.bool true) ∧ Below w.heap.size w w' := by
  unfold maxLen at m1 m2
  obtain ⟨B, hBe⟩ : ∃ B, B = w.heap.size := ⟨_, rfl⟩
  rw [← hBe] at hl ht
  have hB : B ≤ w.heap.size := by omega
  have HBe := Lib.hid hBe
  have HL := Lib.hid hl
  have HT := Lib.hid ht
  clear hBe hl ht
  have H0 : Boxes B w [] := Boxes.nil _ _
  have hwb := within_bd cs 0 300 (by omega)
  go_enter Try.func4, Try.ntmps4
  go_wp2_with fail
  refine (New_arr (L := []) 9 _ (by omega) (by omega) H0 hB).mono ?_
  rintro e w1 ⟨⟨T, b, c, _, _, _⟩, rfl, rfl, rfl, rfl, H1, b1⟩
  replace b1 := b1.mono hB
  have hB1 := size_of_below b1 hB
  have I1 : Inv B w1 T b c w false 0 [] := ⟨H1, b1, hB1, by simp⟩
  clear H0 H1 b1 hB1
  go_wp2_with fail
  refine (within_any cs 0 300 _ (by omega) (by omega) (by omega) n1 n2).mono ?_
  rintro e w' ⟨rfl, rfl⟩
  obtain ⟨cz, hcz⟩ : ∃ cz : Nat, (cz : Int) = within cs 0 300 := ⟨(within cs 0 300).toNat, by omega⟩
  have hcz3 : cz ≤ 300 := by omega
  rw [← hcz]
  clear hcz hwb
  go_wp2_with fail
  go_loopg [9, 10, 11] 250 (fun g nx sn i wr => ∃ (k : Nat) (x : Nat) (ys : List Int), k ≤ 250 ∧ g = 250 - k ∧ i = .int .i64 k ∧ nx = .int .i64 x ∧ sn = .int .i64 ((x + ys.length : Nat) : Int) ∧ x + ys.length ≤ k ∧ Inv B wr T b c w (decide (cz < k)) x ys)
  case atStart => exact ⟨0, 0, [], by omega, rfl, rfl, rfl, rfl, by simp, by simpa using I1⟩
  case round =>
    obtain ⟨k, x, ys, hk, rfl, rfl, rfl, rfl, hx, I⟩ := hrel
    clear I1
    have hy : ys.length ≤ 9 := I.2.2.2
    by_cases hgo : k < l.length ∧ k < 250
    · obtain ⟨h1, h2⟩ := hgo
      obtain ⟨b1, o1, rfl, hc1, _, _⟩ := HL.out.get I.2.1 h1
      clear hc1
      go_upto_if 41 with (fail)
      go_cut [] (fun wx => Inv B wx T b c w (decide (cz ≤ k)) x ys)
      case first =>
        rcases hbe : ((k : Int) == (cz : Int)) with _ | _
        rotate_left
        · have c1 := Lib.hid (Close_arr (L := [⟨T, b, c, 9, qs x ys, decide (cz < k)⟩]) (i := 0) (x := ⟨T, b, c, 9, qs x ys, decide (cz < k)⟩) rfl I.1)
          go_wp2_with (refine c1.out.mono ?_; rintro e w' ⟨rfl, H2, n2⟩)
          go_meet
          have e0 : (k : Int) = cz := by simpa using hbe
          have e1 : decide (cz ≤ k) = true := by simp; omega
          rw [e1]
          exact ⟨H2, I.2.1.trans n2, size_of_below n2 I.2.2.1, hy⟩
        · go_wp2_with fail
          go_meet
          have e0 : ¬ ((k : Int) = cz) := by simpa using hbe
          have e1 : decide (cz ≤ k) = decide (cz < k) := by simp; omega
          rw [e1]
          exact I
      case rest =>
        clear I
        have I2 : Inv B wc T b c w (decide (cz ≤ k)) x ys := hcut
        clear hcut
        obtain ⟨b1', o1', e1, hc1, _, _⟩ := HL.out.get I2.2.1 h1
        cases e1
        generalize l.getD k 0 = v at hc1
        go_wp2_with fail
        refine (Inv.send I2 v).mono ?_
        rintro e w2 ⟨ok, rfl, ht, hf⟩
        have HT' := Lib.hid ht
        have HF' := Lib.hid hf
        clear ht hf I2 hc1
        go_upto_if 51 with (fail)
        go_cut [10] (fun sn wx => ∃ ys' : List Int, sn = .int .i64 ((x + ys'.length : Nat) : Int) ∧ x + ys'.length ≤ k + 1 ∧ Inv B wx T b c w (decide (cz ≤ k)) x ys')
        case first =>
          cases ok
          · have I3 := HF'.out rfl
            go_wp2_with fail
            go_meet
            exact ⟨ys, rfl, by omega, I3⟩
          · obtain ⟨hcl, I3⟩ := HT'.out rfl
            have hcz4 : decide (cz ≤ k) = false := hcl
            have hcz5 : k < cz := by simpa using hcz4
            clear hcl
            rw [hcz4] at I3
            go_wp2_with (go_at_call 19; refine (Closed_arr (L := [⟨T, b, c, 9, qs x (ys ++ [v]), false⟩]) (i := 0) (x := ⟨T, b, c, 9, qs x (ys ++ [v]), false⟩) rfl I3.1).mono ?_; rintro e w' ⟨rfl, rfl⟩)
            go_meet
            exact ⟨ys ++ [v], by simp; omega, by simp; omega, by rw [hcz4]; exact I3⟩
        case rest =>
          obtain ⟨ys', rfl, hx', I4⟩ := hcut
          clear HT' HF' hx
          go_upto_if 64 with (fail)
          go_cut [12] (fun nn wx => ∃ m : Nat, m ≤ 3 ∧ nn = .int .i64 m ∧ Inv B wx T b c w (decide (cz ≤ k)) x ys')
          case first =>
            by_cases h3 : k < t.length
            · obtain ⟨b2, o2, e2, hc2, z1, z2⟩ := HT.out.get I4.2.1 h3
              cases e2
              generalize t.getD k 0 = v2 at hc2 z1 z2
              have c1 := Lib.hid (within_any v2 0 3 wc (by omega) (by omega) (by omega) z1 z2)
              have wb := within_bd v2 0 3 (by omega)
              go_wp2_with (refine c1.out.mono ?_; rintro e w' ⟨rfl, rfl⟩)
              go_meet
              exact ⟨(within v2 0 3).toNat, by omega, by rw [show (((within v2 0 3).toNat : Nat) : Int) = within v2 0 3 by omega], I4⟩
            · go_wp2_with fail
              go_meet
              exact ⟨0, by omega, rfl, I4⟩
          case rest =>
            obtain ⟨m, hm, rfl, I5⟩ := hcut
            clear I4
            have hy' : ys'.length ≤ 9 := I5.2.2.2
            go_wp2_with fail
            go_loopg [9, 12] m (fun g nx nn wx => ∃ (x' : Nat) (zs : List Int), g ≤ 3 ∧ nn = .int .i64 g ∧ nx = .int .i64 x' ∧ x' + zs.length = x + ys'.length ∧ Inv B wx T b c w (decide (cz ≤ k)) x' zs)
            case atStart => exact ⟨x, ys', hm, rfl, rfl, rfl, I5⟩
            case round =>
              obtain ⟨x1, zs, hm2, rfl, rfl, hxz, I6⟩ := hrel
              clear I5
              have HXZ := Lib.hid hxz
              have hx1 : x1 ≤ k + 1 := by omega
              clear hxz
              by_cases hm0 : gk = 0
              · have hm1 : ¬ 0 < gk := by omega
                clear hm0
                go_wp2_with fail
                go_roundg (250 - (k + 1))
                case measure => omega
                case rel => exact ⟨k + 1, x1, zs, by omega, rfl, by go_num, rfl, by rw [HXZ.out], by rw [HXZ.out]; omega, by rw [show decide (cz < k + 1) = decide (cz ≤ k) by simp; omega]; exact I6⟩
              · have hm1 : 0 < gk := by omega
                clear hm0
                have em : ((gk - 1 : Nat) : Int) = (gk : Int) - 1 := by omega
                have EM := Lib.hid em
                clear em
                rcases zs with _ | ⟨z, zs⟩
                · have c1 := Lib.hid (Inv.recv_none I6)
                  go_wp2_with (go_at_call 20; refine c1.out.mono ?_; rintro e w2 ⟨rfl, I7⟩)
                  go_roundg (gk - 1)
                  case measure => omega
                  case rel => exact ⟨x1, [], by omega, by rw [EM.out], rfl, HXZ.out, I7.kept ((Below.refl _ _).alloc (Nat.le_refl _) _)⟩
                · have c1 := Lib.hid (Inv.recv_some I6)
                  go_wp2_with (go_at_call 20; refine c1.out.mono ?_; rintro e w2 ⟨rfl, I7⟩)
                  go_roundg (gk - 1)
                  case measure => omega
                  case rel => exact ⟨x1 + 1, zs, by omega, by rw [EM.out], by go_num, by have := HXZ.out; simp at this; omega, I7.kept ((Below.refl _ _).alloc (Nat.le_refl _) _)⟩
    · have hxy : x + ys.length ≤ 250 := by omega
      clear hx
      have fin : ∀ (wx : World) (cl : Bool), Inv B wx T b c w cl x ys → True := fun _ _ _ => trivial
      clear fin
      by_cases h1 : k < l.length
      all_goals
        first
          | have h2 : ¬ k < 250 := fun h => hgo ⟨h1, h⟩
          | have h2 : True := trivial
        clear hgo
        go_wp2_with fail
        go_loopg [9] ys.length (fun g nx wx => ∃ (x' : Nat) (zs : List Int), g = zs.length ∧ nx = .int .i64 x' ∧ x' + zs.length = x + ys.length ∧ Inv B wx T b c w (decide (cz < k)) x' zs)
        case atStart => exact ⟨x, ys, rfl, rfl, rfl, I⟩
        case round =>
          obtain ⟨x1, zs, hg, rfl, hxz, I6⟩ := hrel
          have HG := Lib.hid hg
          clear I hg
          rcases zs with _ | ⟨z, zs⟩
          · have c1 := Lib.hid (Inv.recv_none I6)
            obtain rfl : x1 = x + ys.length := by simpa using hxz
            clear hxz
            go_wp2_with (go_at_call 20; refine c1.out.mono ?_; rintro e w2 ⟨rfl, I7⟩)
            have I8 := I7.kept ((Below.refl _ _).alloc (Nat.le_refl _) (.cells #[.int .i64 0, .int .i64 0] 41))
            refine (runs _).mono ?_
            rintro e w3 ⟨rfl, hb⟩
            go_wp2_with fail
            go_ret
            exact ⟨rfl, HBe.out ▸ I8.2.1.trans (hb.mono I8.2.2.1)⟩
          · have c1 := Lib.hid (Inv.recv_some I6)
            have HXZ := Lib.hid hxz
            have hx1 : x1 ≤ 250 := by omega
            clear hxz
            go_wp2_with (go_at_call 20; refine c1.out.mono ?_; rintro e w2 ⟨rfl, I7⟩)
            go_roundg zs.length
            case measure => rw [HG.out]; simp
            case rel => exact ⟨x1 + 1, zs, rfl, by go_num, by have := HXZ.out; simp at this; omega, I7.kept ((Below.refl _ _).alloc (Nat.le_refl _) _)⟩
end Go.Proofs.Ytaohnngadjhmjaa.mail
