/- utf.All, walked. -/
import Derived.Test.YtooockbfagkknaaGreatDoorUtf
import Derived.Test.YtooockbfagkknaaGreatDoorPar1
namespace Go.Proofs.YtooockbfagkknaaGreatDoor.syn
open Go.RowKit Go.Proofs.YtooockbfagkknaaGreatDoor.sl Go.Proofs.YtooockbfagkknaaGreatDoor.cls
def allGo : Nat → List UInt8 → List Gt
  | 0, _ => []
  | n + 1, l => if l = [] then [] else if (firstF l).2 = 0 then (65533, 1) :: allGo n (l.drop 1) else firstF l :: allGo n (l.drop (firstF l).2.toNat)
def allF (l : List UInt8) : List Gt := allGo l.length l
theorem contGo_len : ∀ (k : Nat) (r : Int) (lo hi : Nat) (t : List UInt8) (x : Int), contGo k r lo hi t = some x → k ≤ t.length
  | 0, _, _, _, _, _, _ => Nat.zero_le _
  | k + 1, r, lo, hi, [], x, h => by cases h
  | k + 1, r, lo, hi, b :: t, x, h => by
    rw [contGo] at h
    split at h
    · cases h
    · have := contGo_len k _ _ _ t x h
      simp; omega
theorem firstF_len (l : List UInt8) : (firstF l).2 = 0 ∨ ∃ n : Nat, (firstF l).2 = n ∧ 1 ≤ n ∧ n ≤ l.length ∧ n ≤ 4 := by
  rcases l with _ | ⟨c, t⟩
  · exact .inl rfl
  · have hr := (more_range c.toNat).1
    obtain ⟨m, hm⟩ : ∃ m, moreF c.toNat = m := ⟨_, rfl⟩
    obtain ⟨k, lo, hi⟩ := m
    rw [firstF_cons c t rfl hm]
    rw [hm] at hr
    simp only at hr
    split
    · exact .inl rfl
    · cases hcg : contGo k.toNat (start k c.toNat) lo hi t with
      | none => exact .inl rfl
      | some r =>
        have := contGo_len _ _ _ _ _ _ hcg
        refine .inr ⟨k.toNat + 1, ?_, ?_, ?_, ?_⟩
        · simp only; omega
        · omega
        · simp; omega
        · omega
theorem allGo_nil (n : Nat) : allGo n [] = [] := by cases n <;> rfl
theorem allGo_bad {n : Nat} {l : List UInt8} (h : l ≠ []) (h0 : (firstF l).2 = 0) : allGo (n + 1) l = (65533, 1) :: allGo n (l.drop 1) := by rw [allGo, if_neg h, if_pos h0]
theorem allGo_ok {n : Nat} {l : List UInt8} (h : l ≠ []) {m : Nat} (h0 : (firstF l).2 = m) (hm : 1 ≤ m) : allGo (n + 1) l = firstF l :: allGo n (l.drop m) := by
  rw [allGo, if_neg h, if_neg (by omega), h0]
  rfl
theorem allGo_fuel : ∀ (n k : Nat) (l : List UInt8), l.length ≤ n → l.length ≤ k → allGo n l = allGo k l
  | 0, k, l, h, _ => by
    obtain rfl : l = [] := List.eq_nil_of_length_eq_zero (by omega)
    rw [allGo_nil, allGo_nil]
  | n + 1, 0, l, _, h => by
    obtain rfl : l = [] := List.eq_nil_of_length_eq_zero (by omega)
    rw [allGo_nil, allGo_nil]
  | n + 1, k + 1, l, h, h' => by
    by_cases hl : l = []
    · subst hl; rw [allGo_nil, allGo_nil]
    · have hp : 0 < l.length := List.length_pos_iff.2 hl
      rcases firstF_len l with h0 | ⟨m, hm, h1, h2, _⟩
      · rw [allGo_bad hl h0, allGo_bad hl h0, allGo_fuel n k _ (by simp; omega) (by simp; omega)]
      · rw [allGo_ok hl hm h1, allGo_ok hl hm h1, allGo_fuel n k _ (by simp; omega) (by simp; omega)]
theorem rd_drop {w : World} {b off n cap : Nat} {l : List UInt8} (h : Rd eB w (some ⟨b, off, none⟩) l cap) (hn : n ≤ l.length) : Rd eB w (some (if cap = n then ⟨b, off, none⟩ else ⟨b, off + n, none⟩)) (l.drop n) (cap - n) := by
  have hle := h.le
  have hmx := h.max
  refine ⟨fun e => (nomatch e), by simp; omega, by omega, fun ad e hp => ?_⟩
  obtain ⟨_, hb, hc⟩ := h.at_ _ rfl (by omega)
  by_cases hcn : cap = n
  · rw [if_pos hcn] at e
    cases e
    refine ⟨rfl, hb, fun j u hj => ?_⟩
    rw [List.drop_eq_nil_of_le (by omega)] at hj
    simp [flat] at hj
  · rw [if_neg hcn] at e
    cases e
    refine ⟨rfl, hb, fun j u hj => ?_⟩
    have e2 : flat eB l = flat eB (l.take n) ++ flat eB (l.drop n) := by rw [← flat_append, List.take_append_drop]
    have := hc (n + j) u (by
      rw [e2, List.getElem?_append_right (by rw [flat_len eB_len]; simp; omega), flat_len eB_len]
      have : n + j - (l.take n).length * 1 = j := by simp; omega
      rw [this]
      exact hj)
    rw [← Nat.add_assoc] at this
    exact this
theorem eG_one (g : Gt) : ∀ u ∈ eG g, u.oneCell' = true := by simp [eG, Value.oneCell']
theorem elem_g : ElemTy Tryz.prog 39 46 2 16 := ElemTy.mk' (z := .agg #[.int .i32 0, .int .i64 0]) Tryz.underlying39 (by kernel_rfl) rfl (by decide)
abbrev OwnG (B : Nat) (w : World) (v : Value) (l : List Gt) : Prop := Own eG 2 46 B w v l
set_option maxHeartbeats 8000000 in
set_option maxRecDepth 100000 in
theorem allC (a : Option Addr) (l : List UInt8) (cap : Nat) (w : World) (h : Rd eB w a l cap) (hl : l.length ≤ 100000) : Calls Tryz.prog 15 #[.slice a l.length cap] w fun e w' => ∃ v, e = .returned v ∧ OwnG w.heap.size w' v (allF l) ∧ Below w.heap.size w w' := by
  have hm := h.max
  have hle := h.le
  unfold maxLen at hm
  have H := Lib.hid h
  clear h
  suffices key : ∀ F, allF l = F → Calls Tryz.prog 15 #[.slice a l.length cap] w fun e w' => ∃ v, e = .returned v ∧ OwnG w.heap.size w' v F ∧ Below w.heap.size w w' from key _ rfl
  intro F hF
  have HF := Lib.hid hF
  clear hF
  go_enter Tryz.func15, Tryz.ntmps15
  go_wp2_with fail
  go_loopg [0, 3, 4, 5, 6] l.length (fun g tb v x4 x5 x6 wr => ∃ (a' : Option Addr) (m : List UInt8) (cap' : Nat) (acc : List Gt), tb = .slice a' m.length cap' ∧ Rd eB w a' m cap' ∧ g = m.length ∧ OwnG w.heap.size wr v acc ∧ Below w.heap.size w wr ∧ acc ++ allGo m.length m = F ∧ acc.length + m.length ≤ l.length)
  case atStart => exact ⟨a, l, cap, [], rfl, H.out, rfl, Own.nil _ _ _ _ _, Below.refl _ _, HF.out, by simp⟩
  case round =>
    clear H HF hm hle
    obtain ⟨a', m, cap', acc, rfl, rd, rfl, o, b, hgo, hlen⟩ := hrel
    have RD := Lib.hid rd
    have O := Lib.hid o
    have B := Lib.hid b
    have GO := Lib.hid hgo
    have hm := rd.max
    have hle := rd.le
    unfold maxLen at hm
    have hs := b.size
    have hacc : acc.length < 1000000000 := by omega
    by_cases hm0 : m = []
    · subst hm0
      have e1 := GO.out
      rw [allGo_nil, List.append_nil] at e1
      have E1 := Lib.hid e1
      clear e1 GO rd o b hgo
      simp only [List.length_nil] at *
      go_wp2_with fail
      go_ret
      rw [← E1.out]
      exact ⟨_, rfl, O.out, B.out⟩
    · have hpos : 0 < m.length := List.length_pos_iff.2 hm0
      obtain ⟨bb, off, rfl⟩ : ∃ bb off, a' = some ⟨bb, off, none⟩ := by
        rcases a' with _ | ad
        · exact absurd (rd.none_ rfl).1 hm0
        · obtain ⟨h1, _, _⟩ := rd.at_ _ rfl (by have := rd.le; omega)
          obtain ⟨bb, off, sp⟩ := ad
          obtain rfl : sp = none := h1
          exact ⟨bb, off, rfl⟩
      obtain ⟨gm, hgm⟩ : ∃ gm, m.length = gm + 1 := ⟨m.length - 1, by omega⟩
      have e1 := GO.out
      rw [hgm] at e1
      have FL := Lib.hid (firstF_len m)
      have FC := Lib.hid (firstC (some ⟨bb, off, none⟩) m cap' wr (RD.out.kept B.out))
      have HG := Lib.hid hgm
      clear rd o b hgo GO
      rcases FL.out with h0 | ⟨n, hn, n1, n2, n4⟩
      · rw [allGo_bad hm0 h0] at e1
        have E1 := Lib.hid e1
        have FC2 : Hid (Calls Tryz.prog 29 #[.slice (some ⟨bb, off, none⟩) m.length cap'] wr (FirstPost wr ((firstF m).1, 0))) := Lib.hid (by have := FC.out; rw [show firstF m = ((firstF m).1, (firstF m).2) from rfl, h0] at this; exact this)
        clear e1 FC FL h0 hgm
        generalize hr1 : (firstF m).1 = r1 at FC2
        clear hr1
        go_wp2_with fail
        refine FC2.out.mono ?_
        rintro e w2 ⟨bg, rfl, rfl⟩
        go_wp2_with (at_builtin; go_must (refine wpList_app1 elem_g rfl rfl rfl rfl (by simp) O.out (65533, 1) rfl eG_len eG_one hacc (by omega) hs ?_; intro v3 w3 o3 g3; have O3 := Lib.hid o3; have B3 := Lib.hid (grow_below B.out O.out g3 (Nat.le_refl _) hs); clear o3 g3))
        all_goals
          go_roundg (m.length - 1)
          case measure => omega
          case rel =>
            have hd : (m.drop 1).length = m.length - 1 := by simp
            have rdd := rd_drop (n := 1) RD.out (by omega)
            refine ⟨_, m.drop 1, cap' - 1, acc ++ [(65533, 1)], ?_, (by first | (rw [if_neg (by omega)] at rdd; exact rdd) | (rw [if_pos (by omega)] at rdd; exact rdd)), by omega, O3.out, B3.out, ?_, ?_⟩
            · rw [hd, Value.slice.injEq]; exact ⟨rfl, by omega, by omega⟩
            · have e2 := E1.out
              rw [hd, List.append_assoc]
              have hg := HG.out
              rw [allGo_fuel (m.length - 1) gm _ (by simp) (by simp; omega)]
              exact e2
            · rw [hd, List.length_append, List.length_singleton]; omega
      · rw [allGo_ok hm0 hn n1, show firstF m = ((firstF m).1, (firstF m).2) from rfl, hn] at e1
        have E1 := Lib.hid e1
        have FC2 : Hid (Calls Tryz.prog 29 #[.slice (some ⟨bb, off, none⟩) m.length cap'] wr (FirstPost wr ((firstF m).1, (n : Int)))) := Lib.hid (by have := FC.out; rw [show firstF m = ((firstF m).1, (firstF m).2) from rfl, hn] at this; exact this)
        clear e1 FC FL hn hgm
        generalize hr1 : (firstF m).1 = r1 at FC2 E1
        clear hr1
        have nz : ((n : Int) == 0) = false := by rw [beq_eq_false_iff_ne]; omega
        go_wp2_with fail
        refine FC2.out.mono ?_
        rintro e w2 ⟨bg, rfl, rfl⟩
        go_wp2_with (at_builtin; go_must (refine wpList_app1 elem_g rfl rfl rfl rfl (by simp) O.out (r1, (n : Int)) rfl eG_len eG_one hacc (by omega) hs ?_; intro v3 w3 o3 g3; have O3 := Lib.hid o3; have B3 := Lib.hid (grow_below B.out O.out g3 (Nat.le_refl _) hs); clear o3 g3))
        all_goals
          go_roundg (m.length - n)
          case measure => omega
          case rel =>
            have hd : (m.drop n).length = m.length - n := by simp
            have rdd := rd_drop (n := n) RD.out (by omega)
            refine ⟨_, m.drop n, cap' - n, acc ++ [(r1, (n : Int))], ?_, (by first | (rw [if_neg (by omega)] at rdd; exact rdd) | (rw [if_pos (by omega)] at rdd; exact rdd)), by omega, O3.out, B3.out, ?_, ?_⟩
            · rw [hd, Value.slice.injEq]; exact ⟨rfl, by omega, by omega⟩
            · have e2 := E1.out
              rw [hd, List.append_assoc]
              have hg := HG.out
              rw [allGo_fuel (m.length - n) gm _ (by simp) (by simp; omega)]
              exact e2
            · rw [hd, List.length_append, List.length_singleton]; omega
end Go.Proofs.YtooockbfagkknaaGreatDoor.syn
