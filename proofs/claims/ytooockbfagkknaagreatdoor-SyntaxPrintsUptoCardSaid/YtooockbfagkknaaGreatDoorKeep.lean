/- What is read can be looked at; fails, turns, walked. -/
import Derived.Test.YtooockbfagkknaaGreatDoorPrint
import Derived.Test.YtooockbfagkknaaGreatDoorBck
import Derived.Test.YtooockbfagkknaaGreatDoorNodes
import Derived.Test.YtooockbfagkknaaGreatDoorParse
namespace Go.Proofs.YtooockbfagkknaaGreatDoor.syn
open Go.RowKit Go.Proofs.YtooockbfagkknaaGreatDoor.sl Go.Proofs.YtooockbfagkknaaGreatDoor.cls
theorem rise_len : ∀ (l : List Rg) (lo : Int), (∀ p ∈ l, lo ≤ p.1 ∧ p.1 ≤ p.2 ∧ p.2 ≤ 1114111) → l.Pairwise (fun p q => p.2 + 1 < q.1) → lo ≤ 1114112 → (l.length : Int) ≤ 1114112 - lo
  | [], lo, _, _, h => by simp; omega
  | p :: l, lo, h, hp, _ => by
    rw [List.pairwise_cons] at hp
    have h0 := h p (by simp)
    have := rise_len l (p.2 + 1) (fun q hq => ⟨by have := hp.1 q hq; omega, (h q (by simp [hq])).2⟩) hp.2 (by omega)
    rw [List.length_cons]
    omega
theorem good_len {l : List Rg} (h : cls.Good l) : l.length ≤ 1114112 := by
  have := rise_len l 0 (fun p hp => by have := h.1 p hp; unfold InP at this; omega) h.2 (by decide)
  omega
def FineN (b : Int) (x : Nd) : Prop := x.r.length ≤ 2000000 ∧ x.kids ≤ b
theorem kids_walk {L : List Nd} {n : Nat} (H : ∀ a b, rWalk L n a = some b → ∀ k, a ≤ k → k < b → FineN L.length (L.getD k (nd 0))) : ∀ (m a b : Nat), rKids (rWalk L n) m a = some b → a + m ≤ b ∧ ∀ k, a ≤ k → k < b → FineN L.length (L.getD k (nd 0))
  | 0, a, b, h => by
    cases h
    exact ⟨Nat.le_refl _, fun k h1 h2 => by omega⟩
  | m + 1, a, b, h => by
    rw [rKids] at h
    split at h
    · cases h
    rename_i c hc
    have hb := rWalk_bd L n a c hc
    have hk := kids_walk H m c b h
    refine ⟨by omega, fun k h1 h2 => ?_⟩
    by_cases hkc : k < c
    · exact H a c hc k h1 hkc
    · exact hk.2 k (by omega) h2
theorem kids_bd (L : List Nd) (n : Nat) : ∀ (m a b : Nat), a ≤ L.length → rKids (rWalk L n) m a = some b → b ≤ L.length
  | 0, a, b, ha, h => by cases h; exact ha
  | m + 1, a, b, ha, h => by
    rw [rKids] at h
    split at h
    · cases h
    rename_i c hc
    exact kids_bd L n m c b (rWalk_bd L n a c hc).2 h
theorem walk_fine (L : List Nd) : ∀ (n a b : Nat), rWalk L n a = some b → ∀ k, a ≤ k → k < b → FineN L.length (L.getD k (nd 0))
  | 0, a, b, h => nomatch h
  | n + 1, a, b, h => by
    rw [rWalk] at h
    split at h
    · cases h
    rename_i hl
    split at h
    · cases h
    rename_i m hm
    have ih := walk_fine L n
    obtain ⟨h1, h2⟩ := kids_walk ih m.toNat (a + 1) b h
    have hbl := kids_bd L n m.toNat (a + 1) b (by omega) h
    intro k hk hkb
    by_cases hka : a < k
    · exact h2 k hka hkb
    · obtain rfl : k = a := by omega
      have hs := shape_sh hm
      clear hm h h2
      generalize L.getD k (nd 0) = x at hs ⊢
      cases hs with
      | leaf ho e hk0 => rw [e]; exact ⟨Nat.zero_le _, by show (0 : Int) ≤ _; omega⟩
      | cls e hg hk0 =>
        refine ⟨?_, by rw [e]; show (0 : Int) ≤ _; omega⟩
        have := good_len (good_of hg)
        omega
      | rep e _ _ _ hk0 => subst hk0; rw [e]; exact ⟨Nat.zero_le _, by show (1 : Int) ≤ _; omega⟩
      | grp e _ _ hk0 => subst hk0; rw [e]; exact ⟨Nat.zero_le _, by show (1 : Int) ≤ _; omega⟩
      | many hop e _ hk0 =>
        subst hk0
        refine ⟨by rw [e]; exact Nat.zero_le _, by omega⟩
theorem right_fine {L : List Nd} (h : rRight L = true) : ∀ x ∈ L, FineN 480 x := by
  unfold rRight at h
  simp only [Bool.and_eq_true, beq_iff_eq, decide_eq_true_eq] at h
  intro x hx
  obtain ⟨k, hk, rfl⟩ := List.getElem_of_mem hx
  have := walk_fine L 241 0 L.length h.1.2 k (Nat.zero_le _) hk
  rw [List.getD_eq_getElem?_getD, List.getElem?_eq_getElem hk] at this
  exact ⟨this.1, by have := this.2; have := h.1.1.2; simp only [Option.getD_some] at *; omega⟩
theorem parse_fine (l : List UInt8) : (parseF l).1 = [] ∨ ((parseF l).2.1 = 0 ∧ (parseF l).2.2 = 0 ∧ rRight (parseF l).1 = true) := by
  unfold parseF
  split
  · exact .inl rfl
  · rename_i hl
    have hG : (allF l).length ≤ 120 := by have := allGo_len l.length l; unfold allF; omega
    by_cases he : (parseG (allF l)).2.1 = 0
    · right
      have e : parseG (allF l) = ((parseG (allF l)).1, 0, (parseG (allF l)).2.2) := by rw [← he]
      obtain ⟨h1, h2⟩ := parse_right ix hG e
      exact ⟨he, h2, h1⟩
    · left
      unfold parseG at he ⊢
      simp only at he ⊢
      generalize (if (altF (allF l) 21 ps0).1.err = 0 ∧ (altF (allF l) 21 ps0).1.i < (allF l).length then (altF (allF l) 21 ps0).1.wrong (allF l) (altF (allF l) 21 ps0).1.i 4 else (altF (allF l) 21 ps0).1) = q at he ⊢
      by_cases hq : q.err ≠ 0
      · rw [if_pos hq]
      · rw [if_neg hq] at he
        exact absurd rfl he
theorem Nds.nrd {B : Nat} {w : World} {v : Value} {L : List Nd} (h : Nds B w v L) (hf : ∀ x ∈ L, FineN 480 x) : ∃ la lc ls, v = .slice la ls.length lc ∧ ls.map NdV.x = L ∧ Nrd w la lc ls := by
  obtain ⟨ls, rfl, ho, he⟩ := h
  obtain ⟨a, cap, rfl, hr, _⟩ := Own.rd ho
  refine ⟨a, cap, ls, rfl, rfl, hr, fun y hy => ?_⟩
  obtain ⟨a2, c2, e2, hr2, _⟩ := Own.rd (he y hy)
  unfold NdV.v at e2
  simp only [Value.slice.injEq] at e2
  obtain ⟨rfl, hn, rfl⟩ := e2
  have := hf y.x (List.mem_map_of_mem hy)
  unfold FineN at this
  exact ⟨hn, hr2, this.1, by omega⟩
theorem fine_parse (l : List UInt8) : ∀ x ∈ (parseF l).1, FineN 480 x := by
  rcases parse_fine l with h | ⟨_, _, h⟩
  · rw [h]; intro x hx; cases hx
  · exact right_fine h
/-- What reading answers, ready to be looked at. -/
def Read (w : World) (r : List Nd × Int × Int) (e : Ending) (w' : World) : Prop := ∃ la lc ls, e = .returned (.tuple #[.slice la ls.length lc, .int .i64 r.2.1, .int .i64 r.2.2]) ∧ ls.map NdV.x = r.1 ∧ Nrd w' la lc ls ∧ Nds w.heap.size w' (.slice la ls.length lc) r.1 ∧ Below w.heap.size w w'
theorem readC (l : List UInt8) (hl : l.length ≤ 9223372036854775807) (w : World) : Calls Tryz.prog 5 #[str l] w (Read w (parseF l)) :=
  (parseC l hl w).mono fun e w' ⟨v, he, hn, hb⟩ => by
    obtain ⟨la, lc, ls, rfl, hm, hr⟩ := hn.nrd (fine_parse l)
    exact ⟨la, lc, ls, he, hm, hr, hn, hb⟩
set_option maxHeartbeats 4000000 in
set_option maxRecDepth 100000 in
theorem failsC (l : List UInt8) (k n : Int) (hl : l.length ≤ 9223372036854775807) (h : parseF l = ([], k, n)) (w : World) : Calls Tryz.prog 23 #[str l, .int .i64 k, .int .i64 n] w fun e w' => e = .returned (.bool true) ∧ Below w.heap.size w w' := by
  have RC := Lib.hid (readC l hl w)
  rw [h] at RC
  clear h hl
  generalize hs : str l = s at RC ⊢
  clear hs
  go_enter Tryz.func23, Tryz.ntmps23
  go_wp2_with fail
  refine RC.out.mono ?_
  rintro e w2 ⟨la, lc, ls, rfl, hm, _, _, b2⟩
  obtain rfl : ls = [] := by simpa using hm
  have B2 := Lib.hid b2
  clear b2 RC hm
  go_wp2_with fail
  go_ret
  exact ⟨by simp, B2.out⟩
set_option maxHeartbeats 4000000 in
set_option maxRecDepth 100000 in
theorem turnsC (l t : List UInt8) (L : List Nd) (hl : l.length ≤ 9223372036854775807) (h : parseF l = (L, 0, 0)) (hr : rRight L = true) (ht : bsL (printR L) = t) (w : World) (hT : Tab w) : Calls Tryz.prog 24 #[str l, str t] w fun e w' => e = .returned (.bool true) ∧ Below w.heap.size w w' := by
  have RC := Lib.hid (readC l hl w)
  rw [h] at RC
  clear h hl
  have HB : Hid (bsR (printR L) = ⟨t.toArray⟩) := Lib.hid (by unfold bsR; rw [ht])
  rw [rRight_eq] at hr
  have HR := Lib.hid hr
  have HT := Lib.hid hT
  clear ht hr hT
  generalize hs : str l = s at RC ⊢
  clear hs
  show Calls Tryz.prog _ #[s, .string ⟨t.toArray⟩] w _
  generalize (⟨t.toArray⟩ : ByteArray) = tb at HB ⊢
  go_enter Tryz.func24, Tryz.ntmps24
  go_wp2_with fail
  refine RC.out.mono ?_
  rintro e w2 ⟨la, lc, ls, rfl, hm, hn, _, b2⟩
  have HM : Hid (ls.map NdV.x = L) := Lib.hid hm
  have B2 := Lib.hid b2
  have PC := Lib.hid (printC la lc ls w2 hn (HT.out.kept b2))
  rw [hm, HR.out, if_pos rfl, HB.out] at PC
  clear b2 RC hm hn HM HR HB
  go_wp2_with fail
  refine PC.out.mono ?_
  rintro e w3 ⟨rfl, b3⟩
  have B3 : Hid (Below w.heap.size w w3) := Lib.hid (B2.out.trans (b3.mono B2.out.size))
  clear b3 PC
  go_wp2_with fail
  go_ret
  exact ⟨by simp, B3.out⟩
end Go.Proofs.YtooockbfagkknaaGreatDoor.syn
