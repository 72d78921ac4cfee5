/- ClassCounts walked. -/
import Derived.Test.YtocbpbeklbhjkaaCountP
import Derived.Test.YtocbpbeklbhjkaaEnds
namespace Go.Proofs.Ytocbpbeklbhjkaa.cls
open Go.RowKit Go.Proofs.Ytocbpbeklbhjkaa.sl
theorem wpList_unguard {P : Program} {w : World} {ops : Array Oper} {rest : List Oper} {o : Oper} {a : Act} {Q : Exit → Act → World → Prop}
    (hw : Region.wanted o (yielded ops a.tmps) = true) (h : wpList P ops Q ({ o with guard := none } :: rest) a w) : wpList P ops Q (o :: rest) a w := by
  have e : Region.wanted { o with guard := none } (yielded ops a.tmps) = true := by simp [Region.wanted]
  simp only [wpList, e, if_true] at h
  simp only [wpList, hw, if_true]
  exact h
theorem own_empty (w : World) {B : Nat} (hB : B ≤ w.heap.size) : OwnR B (w.alloc (.cells #[] 25)) (.slice (some ⟨w.heap.size, 0, none⟩) 0 0) [] := by
  have := World.ownsRow_made (base := B) (e := 25) (size := 2) w #[] 0 hB (by simp [maxLen]) rfl
  exact this
set_option maxHeartbeats 4000000 in
set_option maxRecDepth 100000 in
theorem counts (a : Option Addr) (l : List Rg) (cap : Nat) (w : World) (h : Rd er w a l cap) :
    Calls Try.prog 8 #[.slice a l.length cap] w fun e w' => e = .returned (.bool true) ∧ Below w.heap.size w w' := by
  have cf := Lib.hid (few a l cap w h)
  have hlen : (l.take 40).length ≤ 40 := by simp; omega
  have H0 := Rd.take (n := 40) h
  clear h
  generalize l.take 40 = L at cf hlen H0
  have H := Lib.hid H0
  clear H0
  go_enter Try.func8, Try.ntmps8
  go_wp2_with fail
  refine cf.out.mono ?_
  rintro e w' ⟨rfl, rfl⟩
  go_wp2_with fail
  refine (makeC a L cap w' H.out (by omega)).mono ?_
  rintro e w1 ⟨v1, rfl, o1, b1⟩
  have hm := makeF_makes L
  have hml := hm.2.2
  have HT := Lib.hid (total_two L)
  have HE := Lib.hid (both_none L)
  have HA := Lib.hid (make_all L)
  generalize makeF L = m at o1 hm hml HT HE HA
  have gm : Lib.hid hm = Lib.hid hm := rfl
  have HM := Lib.hid hm.1
  clear hm cf gm
  obtain ⟨a1, c1, rfl, rd1, -⟩ := o1.rd
  have B1 := Lib.hid b1
  have H1 := Lib.hid (H.out.kept b1)
  clear b1 o1
  go_wp2_with fail
  refine (notC a L cap w1 H1.out (by omega)).mono ?_
  rintro e w2 ⟨v2, rfl, o2, b2⟩
  have hn := notF_nots L
  have hnl := hn.2.2
  generalize notF L = n at o2 hn hnl HT HE HA
  have HN := Lib.hid hn.1
  clear hn
  obtain ⟨a2, c2, rfl, rd2, -⟩ := o2.rd
  have R1 := Lib.hid (rd1.kept b2)
  have R2 := Lib.hid rd2
  have B2 := Lib.hid (B1.out.trans (b2.mono B1.out.size))
  clear b2 o2 rd1 rd2 B1 H1 H
  go_wp2_with fail
  go_loopg [3, 6] m.length (fun g n i wr => ∃ k : Nat, k ≤ m.length ∧ g = m.length - k ∧ n = .int .i64 (total (m.take k)) ∧ i = .int .i64 k ∧ Below w2.heap.size w2 wr)
  case atStart => exact ⟨0, by omega, rfl, rfl, rfl, Below.refl _ _⟩
  case round =>
    obtain ⟨k, hk, rfl, rfl, rfl, hb⟩ := hrel
    by_cases hlt : k < m.length
    · obtain ⟨x, hx⟩ : ∃ x, m[k]? = some x := ⟨_, List.getElem?_eq_getElem hlt⟩
      have HX := Lib.hid hx
      have ip := HM.out.1 x (List.mem_of_getElem? hx)
      unfold InP at ip
      have tb := total_bd (l := m.take k) (fun p hp => HM.out.1 p (List.mem_of_mem_take hp))
      have tl : ((m.take k).length : Int) ≤ 80 := by simp; omega
      have st := Lib.hid (total_step hx)
      obtain ⟨b, off, rfl, hbl, c0, c1'⟩ := Rd.pair (R1.out.kept hb) hx
      clear hx
      have i1 : (k : Int) < (m.length : Int) := by omega
      generalize hT : total (m.take k) = T at tb st
      clear hT
      obtain ⟨tb1, tb2⟩ := tb
      have tb3 : T ≤ 80 * 1114112 := by omega
      clear tb2 tl
      go_wp2_with fail
      go_quiet (fail)
      go_wp2_with fail
      go_roundg (m.length - (k + 1))
      case measure => omega
      case rel => exact ⟨k + 1, by omega, rfl, by rw [st.out], by go_num, drewN_below hb _⟩
    · obtain rfl : k = m.length := by omega
      have tb0 := total_bd (l := m) HM.out.1
      have tl0 : (m.length : Int) ≤ 80 := by omega
      rw [List.take_length]
      generalize hT0 : total m = T0 at tb0 HT
      obtain ⟨tb01, tb02⟩ := tb0
      have tb03 : T0 ≤ 80 * 1114112 := by omega
      clear hT0 tb02 tl0
      go_wp2_with fail
      have hb0 := Lib.hid hb
      clear hb
      go_loopg [3, 7] n.length (fun g n' i wr => ∃ k : Nat, k ≤ n.length ∧ g = n.length - k ∧ n' = .int .i64 (T0 + total (n.take k)) ∧ i = .int .i64 k ∧ Below w2.heap.size w2 wr)
      case atStart => exact ⟨0, by omega, rfl, by simp [total], rfl, hb0.out⟩
      case round =>
        obtain ⟨k, hk, rfl, rfl, rfl, hb⟩ := hrel
        by_cases hlt : k < n.length
        · obtain ⟨x, hx⟩ : ∃ x, n[k]? = some x := ⟨_, List.getElem?_eq_getElem hlt⟩
          have HX := Lib.hid hx
          have ip := HN.out.1 x (List.mem_of_getElem? hx)
          unfold InP at ip
          have tb := total_bd (l := n.take k) (fun p hp => HN.out.1 p (List.mem_of_mem_take hp))
          have tl : ((n.take k).length : Int) ≤ 200 := by simp; omega
          have st := Lib.hid (total_step hx)
          obtain ⟨b, off, rfl, hbl, c0, c1'⟩ := Rd.pair (R2.out.kept hb) hx
          clear hx
          have i1 : (k : Int) < (n.length : Int) := by omega
          generalize hT : total (n.take k) = T at tb st
          clear hT
          obtain ⟨tb1, tb2⟩ := tb
          have tb3 : T ≤ 200 * 1114112 := by omega
          clear tb2 tl
          go_wp2_with fail
          go_quiet (fail)
          go_wp2_with fail
          go_roundg (n.length - (k + 1))
          case measure => omega
          case rel => exact ⟨k + 1, by omega, rfl, by rw [st.out]; congr 1; omega, by go_num, drewN_below hb _⟩
        · obtain rfl : k = n.length := by omega
          rw [List.take_length, HT.out]
          have hbN := Lib.hid hb
          clear hb
          go_wp2_with fail
          refine (bothC a1 a2 m n c1 c2 wr (R1.out.kept hbN.out) (R2.out.kept hbN.out) (by omega) (by omega)).mono ?_
          rw [HE.out]
          rintro e w3 ⟨v3, rfl, o3, b3⟩
          obtain ⟨a3, c3, rfl, -, -⟩ := o3.rd
          have hb3 := Lib.hid (hbN.out.trans (b3.mono hbN.out.size))
          have hs3 := hb3.out.size
          clear b3 o3
          have OE := own_empty w3 (Nat.le_refl w3.heap.size)
          have hb4 := Lib.hid (hb3.out.alloc hs3 (.cells #[] 25))
          have rr1 := R1.out.kept hb4.out
          have rr2 := R2.out.kept hb4.out
          have hsz : w3.heap.size ≤ (w3.alloc (.cells #[] 25)).heap.size := by simp
          have hs2 : w2.heap.size ≤ (w3.alloc (.cells #[] 25)).heap.size := by simp; omega
          have l1 : ([] : List Rg).length + m.length ≤ 1000000000 := by simp; omega
          have l2 : ([] ++ m : List Rg).length + n.length ≤ 1000000000 := by simp; omega
          go_wp2_with (at_builtin; first | (refine wpList_unguard rfl (wpList_app elem_rg rfl rfl rfl rfl OE rr1 rfl er_len er_one l1 (by omega) hsz ?_); intro v5 w5 o5 g5; have hb5 := Below.grow hb4.out OE g5 hs3 hs2; have hs5 := Nat.le_trans hsz (Below.grow (Below.refl _ _) OE g5 (Nat.le_refl _) hsz).size; have rr3 := R2.out.kept hb5) | (go_must (refine wpList_unguard rfl (wpList_app elem_rg rfl rfl rfl rfl o5 rr3 rfl er_len er_one l2 (by omega) hs5 ?_)); intro v6 w6 o6 g6))
          have hb6 := Below.grow hb5 o5 g6 hs3 hb5.size
          rw [List.nil_append] at o6
          obtain ⟨a6, c6, rfl, rd6, -⟩ := o6.rd
          refine (makeC a6 (m ++ n) c6 w6 rd6 (by simp; omega)).mono ?_
          rw [HA.out]
          rintro e w7 ⟨v7, rfl, o7, b7⟩
          obtain ⟨a7, c7, rfl, -, -⟩ := o7.rd
          have hb7 := Lib.hid (B2.out.trans ((hb6.trans (b7.mono hb6.size)).mono B2.out.size))
          go_wp2_with fail
          refine (runs w7).mono ?_
          rintro e w8 ⟨rfl, b8⟩
          go_wp2_with fail
          go_ret
          exact ⟨rfl, hb7.out.trans (b8.mono hb7.out.size)⟩
end Go.Proofs.Ytocbpbeklbhjkaa.cls
