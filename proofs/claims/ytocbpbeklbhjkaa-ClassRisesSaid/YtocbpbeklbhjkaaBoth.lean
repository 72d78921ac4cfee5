/- class.Both. -/
import Derived.Test.YtocbpbeklbhjkaaNot
import Derived.Test.YtocbpbeklbhjkaaApp
namespace Go.Proofs.Ytocbpbeklbhjkaa.cls
open Go.RowKit Go.Proofs.Ytocbpbeklbhjkaa.sl
def inter (x y : Rg) : Rg := (max x.1 y.1, min x.2 y.2)
def interF (ma mb : List Rg) : List Rg := ma.flatMap fun x => mb.map (inter x)
theorem inter_has (x : Rg) (mb : List Rg) (r : Int) : hasB (mb.map (inter x)) r = ((decide (x.1 ≤ r) && decide (r ≤ x.2)) && hasB mb r) := by
  induction mb with
  | nil => simp [hasB]
  | cons y t ih =>
    have e : (decide (max x.1 y.1 ≤ r) && decide (r ≤ min x.2 y.2)) = ((decide (x.1 ≤ r) && decide (r ≤ x.2)) && (decide (y.1 ≤ r) && decide (r ≤ y.2))) := by
      rw [Bool.eq_iff_iff]
      simp only [Bool.and_eq_true, decide_eq_true_eq, Int.max_le, Int.le_min]
      constructor
      · rintro ⟨⟨h1, h2⟩, h3, h4⟩; exact ⟨⟨h1, h3⟩, h2, h4⟩
      · rintro ⟨⟨h1, h3⟩, h2, h4⟩; exact ⟨⟨h1, h2⟩, h3, h4⟩
    have e2 : hasB (inter x y :: t.map (inter x)) r = ((decide (max x.1 y.1 ≤ r) && decide (r ≤ min x.2 y.2)) || hasB (t.map (inter x)) r) := rfl
    rw [List.map_cons, e2, ih, has_cons, e, Bool.and_or_distrib_left]
theorem interF_has (ma mb : List Rg) (r : Int) : hasB (interF ma mb) r = (hasB ma r && hasB mb r) := by
  induction ma with
  | nil => simp [interF, hasB]
  | cons x t ih =>
    have e : interF (x :: t) mb = mb.map (inter x) ++ interF t mb := rfl
    rw [e, has_append, inter_has, ih, has_cons]
    cases hasB mb r <;> simp
theorem interF_len (ma mb : List Rg) : (interF ma mb).length = ma.length * mb.length := by
  induction ma with
  | nil => simp [interF]
  | cons x t ih =>
    have e : interF (x :: t) mb = mb.map (inter x) ++ interF t mb := rfl
    rw [e, List.length_append, List.length_map, ih, List.length_cons, Nat.succ_mul]; omega
def Boths (a b n : List Rg) : Prop := Good n ∧ (∀ r, hasB n r = (validB r && (hasB a r && hasB b r))) ∧ n.length ≤ 8 * (a.length * b.length)
theorem boths_uniq {a b m m' : List Rg} (h : Boths a b m) (h' : Boths a b m') : m = m' := good_uniq h.1 h'.1 fun r => by rw [h.2.1, h'.2.1]
theorem boths_of {a b n : List Rg} (hn : Makes (interF (makeF a) (makeF b)) n) : Boths a b n := by
  have ha := makeF_makes a
  have hb := makeF_makes b
  refine ⟨hn.1, fun r => ?_, ?_⟩
  · rw [hn.2.1, interF_has, ha.2.1, hb.2.1]
    cases validB r <;> simp
  · have h1 := hn.2.2
    rw [interF_len] at h1
    have h2 : (makeF a).length * (makeF b).length ≤ (2 * a.length) * (2 * b.length) := Nat.mul_le_mul ha.2.2 hb.2.2
    have h3 : (2 * a.length) * (2 * b.length) = 4 * (a.length * b.length) := by rw [Nat.mul_mul_mul_comm]
    omega
theorem rd_of_own {B : Nat} {w : World} {a : Option Addr} {cap : Nat} {l : List Rg} (h : OwnR B w (.slice a l.length cap) l) : Rd er w a l cap := by
  obtain ⟨a', cap', e, hr, _⟩ := h.rd
  simp only [Value.slice.injEq, true_and] at e
  obtain ⟨rfl, rfl⟩ := e
  exact hr
theorem cell_grow {w' w2 : World} {u : Value} {X i : Nat} {x : Value} (hc : w'.cell? ⟨X, i, none⟩ = some x) (g : w'.grownBy w2 u.ownBlock) (hne : u.ownBlock ≠ some X) : w2.cell? ⟨X, i, none⟩ = some x :=
  g.cell hc fun e => hne e.symm
theorem fresh_ne {w : World} {v v' : Value} {X : Nat} (h : v.ownBlock ≠ some X) (hf : Fresh w v v') (hX : X < w.heap.size) : v'.ownBlock ≠ some X := by
  rcases hf with hf | hf | ⟨k, hf, hk⟩
  · rw [hf]; exact h
  · rw [hf]; simp
  · rw [hf]; intro e; cases e; omega
set_option maxHeartbeats 4000000 in
set_option maxRecDepth 100000 in
theorem both (a b : Option Addr) (l m : List Rg) (ca cb : Nat) (w : World) (h : Rd er w a l ca) (h' : Rd er w b m cb) (hl : l.length ≤ 2000) (hl' : m.length ≤ 2000) :
    Calls Try.prog 12 #[.slice a l.length ca, .slice b m.length cb] w fun e w' => ∃ v n, e = .returned v ∧ Boths l m n ∧ OwnR w.heap.size w' v n ∧ Below w.heap.size w w' := by
  have c1 := Lib.hid (make a l ca w h (by omega))
  have HB := Lib.hid h'
  have hma := (makeF_makes l).2.2
  have hmb := (makeF_makes m).2.2
  clear h h'
  have hip : ∀ k ≤ (makeF l).length, ((makeF l).take k).length * (makeF m).length ≤ 16000000 := fun k _ => by
    have h1 : ((makeF l).take k).length ≤ 4000 := by simp; omega
    have h2 : (makeF m).length ≤ 4000 := by omega
    exact Nat.le_trans (Nat.mul_le_mul h1 h2) (by omega)
  have HIP := Lib.hid hip
  clear hip
  go_enter Try.func12, Try.ntmps12
  go_wp2_with fail
  refine c1.out.mono ?_
  rintro e w1 ⟨v1, ma, rfl, hm, o1, b1⟩
  obtain rfl := makes_eq hm
  clear c1 hm
  have hs1 := b1.size
  obtain ⟨a1, cap1, rfl, rd1, hge⟩ := o1.rd
  have hm1 := rd1.max
  have hle1 := rd1.le
  unfold maxLen at hm1
  have RD := Lib.hid rd1
  clear rd1 hge o1
  go_wp2_with fail
  go_loopg [5, 13] (makeF l).length (fun g v i wr => ∃ k : Nat, k ≤ (makeF l).length ∧ g = (makeF l).length - k ∧ i = .int .i64 k ∧ OwnR w1.heap.size wr v (interF ((makeF l).take k) (makeF m)) ∧ Below w1.heap.size w1 wr)
  case atStart => exact ⟨0, by omega, rfl, rfl, Own.nil _ _ _ _ _, Below.refl _ _⟩
  case round =>
    obtain ⟨k, hk, rfl, rfl, ho, hb⟩ := hrel
    have hs2 := hb.size
    by_cases hlt : k < (makeF l).length
    · obtain ⟨⟨x0, x1⟩, hx⟩ : ∃ x, (makeF l)[k]? = some x := ⟨_, List.getElem?_eq_getElem hlt⟩
      obtain ⟨b0, off, rfl, hbl, c0, c1⟩ := Rd.pair (RD.out.kept hb) hx
      have HX := Lib.hid hx
      have hcl : (interF ((makeF l).take k) (makeF m)).length ≤ 16000000 := by rw [interF_len]; exact HIP.out k hk
      have e : interF ((makeF l).take (k + 1)) (makeF m) = interF ((makeF l).take k) (makeF m) ++ (makeF m).map (inter (x0, x1)) := take_flat (fun x => (makeF m).map (inter x)) hx
      have HE := Lib.hid e
      clear hx e
      generalize interF ((makeF l).take k) (makeF m) = cur at ho hcl HE
      go_wp2_with fail
      have hbA : Below w.heap.size w (wr.alloc (.cells #[.int .i32 x0, .int .i32 x1] 25)) := (b1.trans (hb.mono hs1)).alloc (by omega) _
      refine (make b m cb _ (HB.out.kept hbA) (by omega)).mono ?_
      rintro e w2 ⟨v2, mb, rfl, hm2, o2, b2⟩
      obtain rfl := makes_eq hm2
      clear hm2
      have hs3 := b2.size
      have hX0 : w2.cell? ⟨wr.heap.size, 0, none⟩ = some (.int .i32 x0) := (b2.cell (p := ⟨wr.heap.size, 0, none⟩) (by simp)).trans (by simp [go_sem])
      have hX1 : w2.cell? ⟨wr.heap.size, 1, none⟩ = some (.int .i32 x1) := (b2.cell (p := ⟨wr.heap.size, 1, none⟩) (by simp)).trans (by simp [go_sem])
      have hsA : (wr.alloc (.cells #[.int .i32 x0, .int .i32 x1] 25)).heap.size = wr.heap.size + 1 := by simp
      rw [hsA] at hs3
      have ho2 : OwnR w1.heap.size w2 u5 cur := (ho.alloc _).below b2 (Nat.le_refl _)
      have hb2 : Below w1.heap.size w1 w2 := (hb.alloc hs2 _).trans (b2.mono (by omega))
      have hne : u5.ownBlock ≠ some wr.heap.size := fun e => Nat.lt_irrefl _ (ho.lt _ e).2
      have hap : Apart v2 u5 := fun j hj e => by
        have h1 := (o2.lt j hj).1
        have h2 := (ho.lt j e).2
        omega
      obtain ⟨a2, cap2, rfl, rd2, _⟩ := o2.rd
      have hm2 := rd2.max
      have hle2 := rd2.le
      unfold maxLen at hm2
      have O2 := Lib.hid o2
      clear rd2 o2 b2 hbA
      go_wp2_with fail
      obtain ⟨wo, hwo⟩ : ∃ wo : World, wo = wr := ⟨_, rfl⟩
      have hX2 : wo.heap.size < w2.heap.size := by subst hwo; omega
      subst hwo
      have hmbl : (makeF m).length ≤ 4000 := by omega
      go_loopg [5, 20] (makeF m).length (fun g v i wq => ∃ j : Nat, j ≤ (makeF m).length ∧ g = (makeF m).length - j ∧ i = .int .i64 j ∧ OwnR w1.heap.size wq v (cur ++ ((makeF m).take j).map (inter (x0, x1))) ∧ Below w1.heap.size w1 wq ∧
        OwnR (wo.alloc (.cells #[.int .i32 x0, .int .i32 x1] 25)).heap.size wq (.slice a2 (makeF m).length cap2) (makeF m) ∧ Apart (.slice a2 (makeF m).length cap2) v ∧ v.ownBlock ≠ some wo.heap.size ∧ w2.heap.size ≤ wq.heap.size ∧
        wq.cell? ⟨wo.heap.size, 0, none⟩ = some (.int .i32 x0) ∧ wq.cell? ⟨wo.heap.size, 1, none⟩ = some (.int .i32 x1))
      case atStart => exact ⟨0, by omega, rfl, rfl, by simpa using ho2, hb2, O2.out, hap, hne, Nat.le_refl _, hX0, hX1⟩
      case round =>
        obtain ⟨j, hj, rfl, rfl, hov, hbv, hmv, hav, hnv, hsv, d0, d1⟩ := hrel
        clear ho2 hb2 O2 hap hne hX0 hX1
        have hsz := hbv.size
        have hlenv : (cur ++ ((makeF m).take j).map (inter (x0, x1))).length ≤ 16004000 := by simp; omega
        by_cases hlt2 : j < (makeF m).length
        · obtain ⟨⟨y0, y1⟩, hy⟩ : ∃ y, (makeF m)[j]? = some y := ⟨_, List.getElem?_eq_getElem hlt2⟩
          obtain ⟨b5, off5, rfl, hbl5, p0, p1⟩ := Rd.pair (rd_of_own hmv) hy
          have HY : Hid (((makeF m).take (j + 1)).map (inter (x0, x1)) = ((makeF m).take j).map (inter (x0, x1)) ++ [(max x0 y0, min x1 y1)]) := by
            refine Lib.hid ?_
            rw [List.take_add_one, hy, List.map_append]
            rfl
          have HOV := Lib.hid hov
          have HMV := Lib.hid hmv
          have HAV := Lib.hid hav
          have HNV := Lib.hid hnv
          have hX3 : wo.heap.size < wr.heap.size := by omega
          clear hy hov hmv hav hnv
          go_wp2_with (at_builtin; go_must (refine wpList_app1F elem_rg rfl rfl rfl rfl (by simp) (HOV.out.alloc _) (max x0 y0, min x1 y1) rfl er_len er_one (by omega) (by omega) (by simp; omega) ?_); intro v3 w3 o3 g3 f3)
          go_roundg ((makeF m).length - (j + 1))
          case measure => omega
          case rel =>
            have hsg := g3.size
            simp only [World.size_alloc] at hsg
            refine ⟨j + 1, by omega, rfl, by go_num, ?_, grow_below (hbv.alloc hsz _) (HOV.out.alloc _) g3 (Nat.le_refl _) (by simp; omega), Own.keep ((HMV.out.alloc _).alloc _) g3 HAV.out, Apart.fresh HAV.out (HMV.out.alloc _) f3, fresh_ne HNV.out f3 (by simp; omega), by omega, cell_grow (u := u5) (by simpa [go_sem, hX3] using d0) g3 HNV.out, cell_grow (u := u5) (by simpa [go_sem, hX3] using d1) g3 HNV.out⟩
            rw [HY.out, ← List.append_assoc]
            exact o3
        · obtain rfl : j = (makeF m).length := by omega
          rw [List.take_length, ← HE.out] at hov
          go_wp2_with fail
          go_roundg ((makeF l).length - (k + 1))
          case measure => omega
          case rel => exact ⟨k + 1, by omega, rfl, by go_num, hov, hbv⟩
    · obtain rfl : k = (makeF l).length := by omega
      rw [List.take_length] at ho
      obtain ⟨a3, cap3, e3, rd3, _⟩ := ho.rd
      subst e3
      have hil : (interF (makeF l) (makeF m)).length ≤ 16000000 := by rw [interF_len]; have := HIP.out (makeF l).length (Nat.le_refl _); rwa [List.take_length] at this
      have c2 := Lib.hid (make a3 _ cap3 wr rd3 (by omega))
      clear rd3
      go_wp2_with fail
      refine c2.out.mono ?_
      rintro e w3 ⟨v3, nn, rfl, hnn, o3, b3⟩
      go_wp2_with fail
      go_ret
      exact ⟨_, nn, rfl, boths_of hnn, o3.mono (by omega), (b1.trans (hb.mono hs1)).trans (b3.mono (by omega))⟩
end Go.Proofs.Ytocbpbeklbhjkaa.cls
