/- SyntaxParses, walked. -/
import Derived.Test.YtooockbfagkknaaGreatDoorRei
import Derived.Test.YtooockbfagkknaaGreatDoorKeep
import Derived.Test.YtooockbfagkknaaGreatDoorSynRuns
namespace Go.Proofs.YtooockbfagkknaaGreatDoor.syn
open Go.RowKit Go.Proofs.YtooockbfagkknaaGreatDoor.sl Go.Proofs.YtooockbfagkknaaGreatDoor.cls
theorem refParse_eq (l : List UInt8) : refParseF l = parseF l := by
  unfold refParseF parseF
  rw [rParse_all]
theorem take_b3 (s : List UInt8) (n : Nat) : (⟨s.toArray⟩ : ByteArray).extract 0 n = ⟨(s.take n).toArray⟩ := by
  apply ByteArray.ext
  simp [ByteArray.data_extract]
/-- The document's reading, ready to be looked at. -/
theorem refReadC (l : List UInt8) (hl : l.length ≤ 9223372036854775807) (w : World) : Calls Tryz.prog 6 #[str l] w (Read w (parseF l)) :=
  (refParseC l hl w).mono fun e w' ⟨v, he, hn, hb⟩ => by
    rw [refParse_eq] at he hn
    obtain ⟨la, lc, ls, rfl, hm, hr⟩ := hn.nrd (fine_parse l)
    exact ⟨la, lc, ls, he, hm, hr, hn, hb⟩
set_option maxHeartbeats 8000000 in
set_option maxRecDepth 100000 in
theorem parsesC (s : List UInt8) (hs : s.length ≤ 9223372036854775807) (w : World) (hT : Tab w) : Calls Tryz.prog 3 #[str s] w fun e w' => e = .returned (.bool true) ∧ Below w.heap.size w w' := by
  obtain ⟨bs, hbs⟩ : ∃ bs : ByteArray, bs = ⟨s.toArray⟩ := ⟨_, rfl⟩
  have sz : bs.size = s.length := by rw [hbs, str_size]
  have hsv : str s = .string bs := by rw [hbs]
  have HT := Lib.hid hT
  have RC := Lib.hid (fun (w' : World) (b : Below w.heap.size w w') => runsC w' (HT.out.kept b))
  rw [hsv]
  have i2 : (bs.size : Int) ≤ 9223372036854775807 := by omega
  have HBS := Lib.hid hbs
  have SZ := Lib.hid sz
  clear hbs sz hsv hT hs
  go_enter Tryz.func3, Tryz.ntmps3
  go_upto_if 11 with fail
  go_cut [0] (fun s0 wx => ∃ t : List UInt8, s0 = str t ∧ t.length ≤ 300 ∧ wx = w)
  case first =>
    by_cases h300 : 300 < bs.size
    · have i1 : (300 : Int) < (bs.size : Int) := by omega
      go_wp2_with fail
      go_meet
      exact ⟨s.take 300, by rw [HBS.out]; exact congrArg Value.string (take_b3 s 300), by simp; omega, rfl⟩
    · have i1 : ¬ (300 : Int) < (bs.size : Int) := by omega
      go_wp2_with fail
      go_meet
      exact ⟨s, by rw [HBS.out], by have := SZ.out; omega, rfl⟩
  case rest =>
    obtain ⟨t, rfl, ht, rfl⟩ := hcut
    clear HBS SZ i2 bs
    have PC := Lib.hid (fun w' => readC t (by omega) w')
    have QC := Lib.hid (fun w' => refReadC t (by omega) w')
    generalize parseF t = r at PC QC
    generalize str t = sv at PC QC ⊢
    clear ht t
    obtain ⟨L, q, p⟩ := r
    go_wp2_with fail
    refine (PC.out _).mono ?_
    rintro e w1 ⟨l1, c1, ls1, rfl, m1, n1, -, b1⟩
    have M1 : Hid (ls1.map NdV.x = L) := Lib.hid m1
    have N1 := Lib.hid n1
    have B1 := Lib.hid b1
    clear m1 n1 b1
    go_wp2_with fail
    refine (QC.out _).mono ?_
    rintro e w2 ⟨l2, c2, ls2, rfl, m2, n2, -, b2⟩
    have M2 : Hid (ls2.map NdV.x = L) := Lib.hid m2
    have N1a := Lib.hid (N1.out.kept b2)
    have N2 := Lib.hid n2
    have B2 := Lib.hid (B1.out.trans (b2.mono B1.out.size))
    have NC := Lib.hid (nodesC l1 l2 c1 c2 ls1 ls2 w2 N1a.out n2)
    have DC : decide (ls1.map NdV.x = ls2.map NdV.x) = true := by rw [M1.out, M2.out]; simp
    rw [DC] at NC
    clear m2 n2 b2 N1 B1 PC QC DC
    go_wp2_with fail
    refine NC.out.mono ?_
    rintro e w3 ⟨rfl, b3⟩
    have B3 := Lib.hid (B2.out.trans (b3.mono B2.out.size))
    clear b3 B2
    go_wp2_with fail
    refine (RC.out _ B3.out).mono ?_
    rintro e w4 ⟨rfl, b4⟩
    go_wp2_with fail
    go_ret
    exact ⟨rfl, B3.out.trans (b4.mono B3.out.size)⟩
end Go.Proofs.YtooockbfagkknaaGreatDoor.syn
