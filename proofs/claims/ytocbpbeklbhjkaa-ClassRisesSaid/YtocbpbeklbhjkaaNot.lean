/- class.Not and class.Right. -/
import Derived.Test.YtocbpbeklbhjkaaPlain
import Derived.Test.YtocbpbeklbhjkaaEq
namespace Go.Proofs.Ytocbpbeklbhjkaa.cls
open Go.RowKit Go.Proofs.Ytocbpbeklbhjkaa.sl
def notGo (nx : Int) : List Rg → List Rg
  | [] => [(nx, 1114111)]
  | p :: t => (nx, p.1 - 1) :: notGo (p.2 + 1) t
theorem notGo_len (nx : Int) (m : List Rg) : (notGo nx m).length = m.length + 1 := by induction m generalizing nx <;> simp_all [notGo]
theorem notGo_has : ∀ (m : List Rg) (nx : Int), Good m → (∀ p ∈ m, nx ≤ p.1) → ∀ r, r ≤ 1114111 → hasB (notGo nx m) r = (decide (nx ≤ r) && !hasB m r)
  | [], nx, _, _, r, hr => by simp [notGo, hasB, hr]
  | p :: t, nx, hg, hn, r, hr => by
    have ip := hg.1 p (by simp)
    unfold InP at ip
    have pw := List.pairwise_cons.1 hg.2
    have ih := notGo_has t (p.2 + 1) (good_tail hg) (fun q hq => by have := pw.1 q hq; omega) r hr
    have hnp := hn p (by simp)
    rw [notGo, has_cons, ih, has_cons]
    rcases ht : hasB t r with _ | _
    · rw [Bool.eq_iff_iff]; simp; omega
    · have := good_low hg ht
      rw [Bool.eq_iff_iff]; simp; omega
theorem valid_le {r : Int} (h : validB r = true) : r ≤ 1114111 ∧ 0 ≤ r := by
  have := (valid_iff r).1 h; omega
theorem cell_past {B : Nat} {w w' w2 : World} {v : Value} {l : List Rg} {x1 : Value} (ho : OwnR B w v l) (hc : w'.cell? ⟨w.heap.size, 1, none⟩ = some x1) (g : w'.grownBy w2 v.ownBlock) : w2.cell? ⟨w.heap.size, 1, none⟩ = some x1 :=
  g.cell hc fun e => Nat.lt_irrefl _ (ho.lt _ e.symm).2
def Nots (l n : List Rg) : Prop := Good n ∧ (∀ r, hasB n r = (validB r && !hasB l r)) ∧ n.length ≤ 4 * l.length + 2
theorem nots_uniq {l m m' : List Rg} (h : Nots l m) (h' : Nots l m') : m = m' := good_uniq h.1 h'.1 fun r => by rw [h.2.1, h'.2.1]
theorem nots_of {l m n : List Rg} (hm : Makes l m) (hn : Makes (notGo 0 m) n) : Nots l n := by
  refine ⟨hn.1, fun r => ?_, ?_⟩
  · rw [hn.2.1]
    rcases hv : validB r with _ | _
    · rfl
    · have := valid_le hv
      rw [notGo_has m 0 hm.1 (fun p hp => (hm.1.1 p hp).1) r this.1, hm.2.1, hv]
      simp [this.2]
  · have h1 := hn.2.2
    have h2 := hm.2.2
    rw [notGo_len] at h1
    omega
set_option maxHeartbeats 4000000 in
set_option maxRecDepth 100000 in
theorem not (a : Option Addr) (l : List Rg) (cap : Nat) (w : World) (h : Rd er w a l cap) (hl : l.length ≤ 10000000) :
    Calls Try.prog 11 #[.slice a l.length cap] w fun e w' => ∃ v n, e = .returned v ∧ Nots l n ∧ OwnR w.heap.size w' v n ∧ Below w.heap.size w w' := by
  have c1 := Lib.hid (make a l cap w h (by omega))
  go_enter Try.func11, Try.ntmps11
  go_wp2_with fail
  refine c1.out.mono ?_
  rintro e w1 ⟨v1, m, rfl, hm, o1, b1⟩
  clear c1
  have hs1 := b1.size
  have hlen := hm.2.2
  obtain ⟨a1, cap1, rfl, rd1, hge⟩ := o1.rd
  have hm1 := rd1.max
  have hle1 := rd1.le
  unfold maxLen at hm1
  have RD := Lib.hid rd1
  have HM := Lib.hid hm
  clear rd1 hge o1 hm h
  go_wp2_with fail
  go_loopg [3, 4, 10] m.length (fun g v nx i wr => ∃ (k : Nat) (n : Int) (out : List Rg), k ≤ m.length ∧ g = m.length - k ∧ i = .int .i64 k ∧ nx = .int .i32 n ∧ 0 ≤ n ∧ n ≤ 1114112 ∧ out.length = k ∧ notGo 0 m = out ++ notGo n (m.drop k) ∧ OwnR w1.heap.size wr v out ∧ Below w1.heap.size w1 wr)
  case atStart => exact ⟨0, 0, [], by omega, rfl, rfl, rfl, by omega, by omega, rfl, rfl, Own.nil _ _ _ _ _, Below.refl _ _⟩
  case round =>
    obtain ⟨k, n, out, hk, rfl, rfl, rfl, hn0, hn1, hol, heq, ho, hb⟩ := hrel
    have HEQ := Lib.hid heq
    have HOL := Lib.hid hol
    have hol' : out.length ≤ m.length := by omega
    clear heq hol
    have hs2 := hb.size
    by_cases hlt : k < m.length
    · obtain ⟨⟨x0, x1⟩, hx⟩ : ∃ x, m[k]? = some x := ⟨_, List.getElem?_eq_getElem hlt⟩
      have hxi := HM.out.1.1 (x0, x1) (List.mem_of_getElem? hx)
      unfold InP at hxi
      obtain ⟨hx0, hx1, hx2, _⟩ := hxi
      simp only at hx0 hx1 hx2
      obtain ⟨b, off, rfl, hbl, c0, c1⟩ := Rd.pair (RD.out.kept hb) hx
      have HX := Lib.hid hx
      clear hx
      go_wp2_with (at_builtin; go_must (refine wpList_app1 elem_rg rfl rfl rfl rfl (by simp) (ho.alloc _) (n, x0 - 1) rfl er_len er_one (by omega) (by omega) (by simp; omega) ?_); intro v2 w2 o2 g2; have hblk := cell_past (x1 := .int .i32 x1) ho (by simp [go_sem]) g2)
      have hb2 := grow_below (hb.alloc hs2 _) (ho.alloc _) g2 (Nat.le_refl _) (by simp; omega)
      go_roundg (m.length - (k + 1))
      case measure => omega
      case rel =>
        refine ⟨k + 1, x1 + 1, out ++ [(n, x0 - 1)], by omega, rfl, by go_num, rfl, by omega, by omega, by simp [HOL.out], ?_, o2, hb2⟩
        rw [HEQ.out, List.drop_eq_getElem_cons hlt]
        have hxe : m[k] = (x0, x1) := by have := HX.out; rw [List.getElem?_eq_getElem hlt] at this; exact Option.some.inj this
        rw [hxe]
        simp [notGo]
    · obtain rfl : k = m.length := by omega
      go_wp2_with (at_builtin; go_must (refine wpList_app1 elem_rg rfl rfl rfl rfl (by simp) ho (n, 1114111) rfl er_len er_one (by omega) (by omega) (by omega) ?_); intro v2 w2 o2 g2)
      have hb2 := grow_below hb ho g2 (Nat.le_refl _) hs2
      have he : out ++ [(n, 1114111)] = notGo 0 m := by rw [HEQ.out]; simp [notGo]
      rw [he] at o2
      obtain ⟨a3, cap3, rfl, rd3, _⟩ := o2.rd
      have hgl := notGo_len 0 m
      refine (make a3 (notGo 0 m) cap3 w2 rd3 (by omega)).mono ?_
      rintro e w3 ⟨v3, nn, rfl, hnn, o3, b3⟩
      go_wp2_with fail
      go_ret
      have hs3 := hb2.size
      exact ⟨_, nn, rfl, nots_of HM.out hnn, o3.mono (by omega), (b1.trans (hb2.mono hs1)).trans (b3.mono (by omega))⟩
def RightB (l : List Rg) : Prop := Makes l l
theorem right (a : Option Addr) (l : List Rg) (cap : Nat) (w : World) (h : Rd er w a l cap) (hl : l.length ≤ 100000000) :
    Calls Try.prog 14 #[.slice a l.length cap] w fun e w' => ∃ m, Makes l m ∧ e = .returned (.bool (decide (l = m))) ∧ Below w.heap.size w w' := by
  have c1 := Lib.hid (make a l cap w h hl)
  have H := Lib.hid h
  clear h
  go_enter Try.func14, Try.ntmps14
  go_wp2_with fail
  refine c1.out.mono ?_
  rintro e w1 ⟨v1, m, rfl, hm, o1, b1⟩
  obtain ⟨a1, cap1, rfl, rd1, hge⟩ := o1.rd
  have HM := Lib.hid hm
  clear hm c1 hge
  go_wp2_with fail
  refine (equal a a1 l m cap cap1 w1 (H.out.kept b1) rd1).mono ?_
  rintro e w2 ⟨rfl, b2⟩
  go_wp2_with fail
  go_ret
  exact ⟨m, HM.out, rfl, b1.trans (b2.mono b1.size)⟩
end Go.Proofs.Ytocbpbeklbhjkaa.cls
