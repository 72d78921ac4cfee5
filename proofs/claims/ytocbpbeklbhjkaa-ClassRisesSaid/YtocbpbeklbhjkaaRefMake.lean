/- spoorref7.Make and Not: between two marks. -/
import Derived.Test.YtocbpbeklbhjkaaMarks
import Derived.Test.YtocbpbeklbhjkaaPlain
import Derived.StillTailTactics
namespace Go.Proofs.Ytocbpbeklbhjkaa.cls
open Go.RowKit Go.Proofs.Ytocbpbeklbhjkaa.sl
def condB (c : Int → Bool) (m : List Int) (k : Nat) : Bool := decide (m.getD k 0 < m.getD (k + 1) 0) && (decide (m.getD k 0 < 55296) || decide (57343 < m.getD k 0)) && c (m.getD k 0)
def refStep (c : Int → Bool) (m : List Int) (out : List Rg) (k : Nat) : List Rg := if condB c m k then pieceF out (m.getD k 0) (m.getD (k + 1) 0 - 1) else out
def refF (c : Int → Bool) (m : List Int) : Nat → List Rg
  | 0 => []
  | k + 1 => refStep c m (refF c m k) k
def RefPost (c : Int → Bool) (l : List Rg) (w : World) (e : Ending) (w' : World) : Prop := ∃ v m, e = .returned v ∧ m.Perm (marks0 l) ∧ m.Pairwise (· ≤ ·) ∧ OwnR w.heap.size w' v (refF c m (m.length - 1)) ∧ Below w.heap.size w w'
theorem pieceF_len (l : List Rg) (lo hi : Int) : (pieceF l lo hi).length ≤ l.length + 1 := by
  unfold pieceF
  split
  · split <;> simp
  · simp
theorem refF_len (c : Int → Bool) (m : List Int) (k : Nat) : (refF c m k).length ≤ k := by
  induction k with
  | zero => simp [refF]
  | succ k ih =>
    have := pieceF_len (refF c m k) (m.getD k 0) (m.getD (k + 1) 0 - 1)
    simp only [refF, refStep]
    split <;> omega
theorem pieceF_bd {l : List Rg} {lo hi : Int} (h : ∀ r ∈ l, -10 ≤ r.2 ∧ r.2 ≤ 1114111) (hh : -10 ≤ hi ∧ hi ≤ 1114111) : ∀ r ∈ pieceF l lo hi, -10 ≤ r.2 ∧ r.2 ≤ 1114111 := by
  intro r hr
  unfold pieceF at hr
  split at hr
  · split at hr
    · rcases List.mem_append.1 hr with hr | hr
      · exact h r ((List.dropLast_sublist l).subset hr)
      · simp at hr; subst hr; exact hh
    · rcases List.mem_append.1 hr with hr | hr
      · exact h r hr
      · simp at hr; subst hr; exact hh
  · simp at hr; subst hr; exact hh
theorem refF_bd {c : Int → Bool} {m : List Int} (hm : ∀ x ∈ m, 0 ≤ x ∧ x ≤ 1114112) : ∀ k, k + 1 ≤ m.length → ∀ r ∈ refF c m k, -10 ≤ r.2 ∧ r.2 ≤ 1114111 := by
  intro k
  induction k with
  | zero => intro _ r hr; simp [refF] at hr
  | succ k ih =>
    intro hk
    simp only [refF, refStep]
    split
    · have hx : m.getD (k + 1) 0 ∈ m := List.mem_of_getElem? (getD_eq (show k + 1 < m.length by omega) 0)
      have := hm _ hx
      exact pieceF_bd (ih (by omega)) (by omega)
    · exact ih (by omega)
theorem marks_bd {l : List Rg} : ∀ x ∈ marks0 l, 0 ≤ x ∧ x ≤ 1114112 := by
  intro x hx
  simp only [marks0, List.mem_append, List.mem_flatMap] at hx
  rcases hx with hx | ⟨y, _, hx⟩
  · simp at hx; omega
  · unfold markF at hx
    rcases List.mem_append.1 hx with hx | hx
    · split at hx
      · rename_i h; simp [m1] at h; simp at hx; omega
      · simp at hx
    · split at hx
      · rename_i h; simp [m2] at h; simp at hx; omega
      · simp at hx

set_option maxHeartbeats 4000000 in
set_option maxRecDepth 100000 in
theorem refMake (a : Option Addr) (l : List Rg) (cap : Nat) (w : World) (h : Rd er w a l cap) (hl : l.length ≤ 100000) :
    Calls Try.prog 17 #[.slice a l.length cap] w (RefPost (fun r => hasB l r) l w) := by
  have c1 := Lib.hid (marks a l cap w h hl)
  have H := Lib.hid h
  clear h
  go_enter Try.func17, Try.ntmps17
  go_wp2_with fail
  refine c1.out.mono ?_
  rintro e w1 ⟨v1, m, rfl, hp, hpw, o1, b1⟩
  clear c1
  have hs1 := b1.size
  have hml : 4 ≤ m.length ∧ m.length ≤ 300000 := by
    have h1 := hp.length_eq
    have h2 := flat_len_le markF 2 markF_len l
    simp only [marks0, List.length_append, List.length_cons, List.length_nil] at h1
    omega
  obtain ⟨hml1, hml2⟩ := hml
  have hmb : ∀ x ∈ m, 0 ≤ x ∧ x ≤ 1114112 := fun x hx => marks_bd x (hp.mem_iff.1 hx)
  have HMB := Lib.hid hmb
  have HP := Lib.hid hp
  have HPW := Lib.hid hpw
  obtain ⟨a1, cap1, rfl, rd1, hge⟩ := o1.rd
  have hm1 := rd1.max
  have hle1 := rd1.le
  unfold maxLen at hm1
  have RD := Lib.hid rd1
  clear rd1 hge o1 hp hpw hmb
  go_wp2_with fail
  go_loopg [4, 5] (m.length - 1) (fun g v i wr => ∃ k : Nat, k + 1 ≤ m.length ∧ g = m.length - 1 - k ∧ i = .int .i64 k ∧ OwnR w1.heap.size wr v (refF (fun r => hasB l r) m k) ∧ Below w1.heap.size w1 wr)
  case atStart => exact ⟨0, by omega, rfl, rfl, Own.nil _ _ _ _ _, Below.refl _ _⟩
  case round =>
    obtain ⟨k, hk, rfl, rfl, ho, hb⟩ := hrel
    have hs2 := hb.size
    by_cases hlt : k + 1 < m.length
    · have hx0 : m[k]? = some (m.getD k 0) := getD_eq (by omega) 0
      have hx1 : m[k + 1]? = some (m.getD (k + 1) 0) := getD_eq hlt 0
      have hr0 := HMB.out _ (List.mem_of_getElem? hx0)
      have hr1 := HMB.out _ (List.mem_of_getElem? hx1)
      obtain ⟨b, off, rfl, hbl, q0⟩ := (RD.out.kept hb).cells ei_len hx0
      obtain ⟨b', off', e', _, q1⟩ := (RD.out.kept hb).cells ei_len hx1
      cases e'
      have p0 := q0 0 _ (by omega) rfl
      have p1 := q1 0 _ (by omega) rfl
      simp only [Nat.mul_one, Nat.add_zero] at p0 p1
      clear q0 q1
      have hw : Below w.heap.size w wr := b1.trans (hb.mono hs1)
      have hst : refF (fun r => hasB l r) m (k + 1) = refStep (fun r => hasB l r) m (refF (fun r => hasB l r) m k) k := rfl
      have hcd : condB (fun r => hasB l r) m k = (decide (m.getD k 0 < m.getD (k + 1) 0) && (decide (m.getD k 0 < 55296) || decide (57343 < m.getD k 0)) && hasB l (m.getD k 0)) := rfl
      have hfb := refF_bd (c := (fun r => hasB l r)) HMB.out k (by omega)
      have hfl := refF_len (fun r => hasB l r) m k
      rw [refStep, hcd] at hst
      generalize hA : m.getD k 0 = A at *
      generalize hC : m.getD (k + 1) 0 = C at *
      obtain ⟨hA0, hA1⟩ := hr0
      obtain ⟨hC0, hC1⟩ := hr1
      have HST := Lib.hid hst
      have HFB := Lib.hid hfb
      have HA := Lib.hid hA
      have HC := Lib.hid hC
      generalize refF (fun r => hasB l r) m k = out at ho hfl HFB HST
      obtain ⟨cb, hcb⟩ : ∃ cb, (decide (A < C) && (decide (A < 55296) || decide (57343 < A)) && hasB l A) = cb := ⟨_, rfl⟩
      have HCB := Lib.hid hcb
      clear hst hfb hx0 hx1 hcd hcb hA hC
      have ik : (k : Int) + 1 < (m.length : Int) := by omega
      have ik0 : (k : Int) < (m.length : Int) := by omega
      have ik1 : (k : Int) + 1 ≤ 9223372036854775807 := by omega
      go_upto_region 6 with (fail)
      go_cut [46] (fun s wx => s = .bool cb ∧ ∃ nq, wx = wr.drewN nq)
      case first =>
        by_cases hv : A < 55296
        · have hv2 : decide (A < 55296) = true := by simpa using hv
          refine wp_region_quiet_lit (by kernel_rfl) (by kernel_rfl) ?_
          repeat (any_goals (first | go_big_quiet_step ((go_at_call 28; exact Calls.quiet_of_same (refHas a l cap A _ (Rd.drewN' (H.out.kept hw) _)))) | quiet_step ((go_at_call 28; exact Calls.quiet_of_same (refHas a l cap A _ (Rd.drewN' (H.out.kept hw) _)))) | (refine wpQuiet_step (fun K hK => ?_); go_simp; split <;> (refine hK _ ?_; clear hK K))))
          all_goals (refine wpQuiet_nil ?_; intro _ hw'; obtain ⟨nq, hw''⟩ := hw'; subst hw'')
          all_goals go_wp2_with fail
          all_goals go_meet
          all_goals go_light
          all_goals (refine ⟨congrArg Value.bool ?_, nq, rfl⟩; rw [← HCB.out]; simp [*]; try (intros; exfalso; omega))
        · have hv2 : decide (A < 55296) = false := by simpa using hv
          refine wp_region_quiet_lit (by kernel_rfl) (by kernel_rfl) ?_
          repeat (any_goals (first | go_big_quiet_step ((go_at_call 28; exact Calls.quiet_of_same (refHas a l cap A _ (Rd.drewN' (H.out.kept hw) _)))) | quiet_step ((go_at_call 28; exact Calls.quiet_of_same (refHas a l cap A _ (Rd.drewN' (H.out.kept hw) _)))) | (refine wpQuiet_step (fun K hK => ?_); go_simp; split <;> (refine hK _ ?_; clear hK K))))
          all_goals (refine wpQuiet_nil ?_; intro _ hw'; obtain ⟨nq, hw''⟩ := hw'; subst hw'')
          all_goals go_wp2_with fail
          all_goals go_meet
          all_goals go_light
          all_goals (refine ⟨congrArg Value.bool ?_, nq, rfl⟩; rw [← HCB.out]; simp [*]; try (intros; exfalso; omega))
      case rest =>
        obtain ⟨rfl, nq, rfl⟩ := hcut
        cases cb
        · go_wp2_with fail
          go_roundg (m.length - 1 - (k + 1))
          case measure => omega
          case rel =>
            refine ⟨k + 1, by omega, rfl, by go_num, ?_, drewN_below hb _⟩
            rw [HST.out, HCB.out]
            exact ho.drewN nq
        · have p0' : (wr.drewN nq).cell? ⟨b, off + k, none⟩ = some (.int .i32 A) := by simpa using p0
          have p1' : (wr.drewN nq).cell? ⟨b, off + (k + 1), none⟩ = some (.int .i32 C) := by simpa using p1
          have ho' := ho.drewN nq
          have hb' := drewN_below hb nq
          have hs2' := hb'.size
          clear p0 p1 ho hb hs2 hw hbl
          generalize wr.drewN nq = wd at p0' p1' ho' hb' hs2'
          go_wp2_with fail
          have s1 : IntKind.i64.wrap ((k : Int) + 1) = (k : Int) + 1 := IntWalk.i64_in _ (by omega)
          have s2 : IntKind.i32.wrap (C - 1) = C - 1 := IntWalk.i32_in _ (by omega)
          have s3 : ((k : Int) + 1).toNat = k + 1 := by omega
          have s4 : (0 : Int) ≤ (k : Int) + 1 := by omega
          go_still_tail 11, (by kernel_rfl)
          change wpList _ _ _ _ _ wd.drew
          have ho2 : OwnR w1.heap.size wd.drew u4 out := ho'
          have hb2 : Below w1.heap.size w1 wd.drew := hb'.drew
          have hs3 : w1.heap.size ≤ wd.drew.heap.size := hs2'
          clear s1 s2 s3 s4 ho' hb' hs2' p0' p1'
          generalize wd.drew = w2 at ho2 hb2 hs3
          have cp := Lib.hid (piece A (C - 1) ho2 HFB.out (by omega) hs3)
          go_wp2_with (refine cp.out.mono ?_; rintro e w3 ⟨v3, rfl, o3, b3⟩)
          go_roundg (m.length - 1 - (k + 1))
          case measure => omega
          case rel =>
            refine ⟨k + 1, by omega, rfl, by go_num, ?_, hb2.trans b3⟩
            rw [HST.out, HCB.out]
            exact o3
    · obtain rfl : k = m.length - 1 := by omega
      have ik : ¬ ((m.length - 1 : Nat) : Int) + 1 < (m.length : Int) := by omega
      go_wp2_with fail
      go_ret
      exact ⟨_, m, rfl, HP.out, HPW.out, ho.mono hs1, b1.trans (hb.mono hs1)⟩

set_option maxHeartbeats 4000000 in
set_option maxRecDepth 100000 in
theorem refNot (a : Option Addr) (l : List Rg) (cap : Nat) (w : World) (h : Rd er w a l cap) (hl : l.length ≤ 100000) :
    Calls Try.prog 18 #[.slice a l.length cap] w (RefPost (fun r => !hasB l r) l w) := by
  have c1 := Lib.hid (marks a l cap w h hl)
  have H := Lib.hid h
  clear h
  go_enter Try.func18, Try.ntmps18
  go_wp2_with fail
  refine c1.out.mono ?_
  rintro e w1 ⟨v1, m, rfl, hp, hpw, o1, b1⟩
  clear c1
  have hs1 := b1.size
  have hml : 4 ≤ m.length ∧ m.length ≤ 300000 := by
    have h1 := hp.length_eq
    have h2 := flat_len_le markF 2 markF_len l
    simp only [marks0, List.length_append, List.length_cons, List.length_nil] at h1
    omega
  obtain ⟨hml1, hml2⟩ := hml
  have hmb : ∀ x ∈ m, 0 ≤ x ∧ x ≤ 1114112 := fun x hx => marks_bd x (hp.mem_iff.1 hx)
  have HMB := Lib.hid hmb
  have HP := Lib.hid hp
  have HPW := Lib.hid hpw
  obtain ⟨a1, cap1, rfl, rd1, hge⟩ := o1.rd
  have hm1 := rd1.max
  have hle1 := rd1.le
  unfold maxLen at hm1
  have RD := Lib.hid rd1
  clear rd1 hge o1 hp hpw hmb
  go_wp2_with fail
  go_loopg [4, 5] (m.length - 1) (fun g v i wr => ∃ k : Nat, k + 1 ≤ m.length ∧ g = m.length - 1 - k ∧ i = .int .i64 k ∧ OwnR w1.heap.size wr v (refF (fun r => !hasB l r) m k) ∧ Below w1.heap.size w1 wr)
  case atStart => exact ⟨0, by omega, rfl, rfl, Own.nil _ _ _ _ _, Below.refl _ _⟩
  case round =>
    obtain ⟨k, hk, rfl, rfl, ho, hb⟩ := hrel
    have hs2 := hb.size
    by_cases hlt : k + 1 < m.length
    · have hx0 : m[k]? = some (m.getD k 0) := getD_eq (by omega) 0
      have hx1 : m[k + 1]? = some (m.getD (k + 1) 0) := getD_eq hlt 0
      have hr0 := HMB.out _ (List.mem_of_getElem? hx0)
      have hr1 := HMB.out _ (List.mem_of_getElem? hx1)
      obtain ⟨b, off, rfl, hbl, q0⟩ := (RD.out.kept hb).cells ei_len hx0
      obtain ⟨b', off', e', _, q1⟩ := (RD.out.kept hb).cells ei_len hx1
      cases e'
      have p0 := q0 0 _ (by omega) rfl
      have p1 := q1 0 _ (by omega) rfl
      simp only [Nat.mul_one, Nat.add_zero] at p0 p1
      clear q0 q1
      have hw : Below w.heap.size w wr := b1.trans (hb.mono hs1)
      have hst : refF (fun r => !hasB l r) m (k + 1) = refStep (fun r => !hasB l r) m (refF (fun r => !hasB l r) m k) k := rfl
      have hcd : condB (fun r => !hasB l r) m k = (decide (m.getD k 0 < m.getD (k + 1) 0) && (decide (m.getD k 0 < 55296) || decide (57343 < m.getD k 0)) && !hasB l (m.getD k 0)) := rfl
      have hfb := refF_bd (c := (fun r => !hasB l r)) HMB.out k (by omega)
      have hfl := refF_len (fun r => !hasB l r) m k
      rw [refStep, hcd] at hst
      generalize hA : m.getD k 0 = A at *
      generalize hC : m.getD (k + 1) 0 = C at *
      obtain ⟨hA0, hA1⟩ := hr0
      obtain ⟨hC0, hC1⟩ := hr1
      have HST := Lib.hid hst
      have HFB := Lib.hid hfb
      have HA := Lib.hid hA
      have HC := Lib.hid hC
      generalize refF (fun r => !hasB l r) m k = out at ho hfl HFB HST
      obtain ⟨cb, hcb⟩ : ∃ cb, (decide (A < C) && (decide (A < 55296) || decide (57343 < A)) && !hasB l A) = cb := ⟨_, rfl⟩
      have HCB := Lib.hid hcb
      clear hst hfb hx0 hx1 hcd hcb hA hC
      have ik : (k : Int) + 1 < (m.length : Int) := by omega
      have ik0 : (k : Int) < (m.length : Int) := by omega
      have ik1 : (k : Int) + 1 ≤ 9223372036854775807 := by omega
      go_upto_region 6 with (fail)
      go_cut [47] (fun s wx => s = .bool cb ∧ ∃ nq, wx = wr.drewN nq)
      case first =>
        by_cases hv : A < 55296
        · have hv2 : decide (A < 55296) = true := by simpa using hv
          refine wp_region_quiet_lit (by kernel_rfl) (by kernel_rfl) ?_
          repeat (any_goals (first | go_big_quiet_step ((go_at_call 28; exact Calls.quiet_of_same (refHas a l cap A _ (Rd.drewN' (H.out.kept hw) _)))) | quiet_step ((go_at_call 28; exact Calls.quiet_of_same (refHas a l cap A _ (Rd.drewN' (H.out.kept hw) _)))) | (refine wpQuiet_step (fun K hK => ?_); go_simp; split <;> (refine hK _ ?_; clear hK K))))
          all_goals (refine wpQuiet_nil ?_; intro _ hw'; obtain ⟨nq, hw''⟩ := hw'; subst hw'')
          all_goals go_wp2_with fail
          all_goals go_meet
          all_goals go_light
          all_goals (refine ⟨congrArg Value.bool ?_, nq, rfl⟩; rw [← HCB.out]; simp [*]; try (intros; exfalso; omega))
        · have hv2 : decide (A < 55296) = false := by simpa using hv
          refine wp_region_quiet_lit (by kernel_rfl) (by kernel_rfl) ?_
          repeat (any_goals (first | go_big_quiet_step ((go_at_call 28; exact Calls.quiet_of_same (refHas a l cap A _ (Rd.drewN' (H.out.kept hw) _)))) | quiet_step ((go_at_call 28; exact Calls.quiet_of_same (refHas a l cap A _ (Rd.drewN' (H.out.kept hw) _)))) | (refine wpQuiet_step (fun K hK => ?_); go_simp; split <;> (refine hK _ ?_; clear hK K))))
          all_goals (refine wpQuiet_nil ?_; intro _ hw'; obtain ⟨nq, hw''⟩ := hw'; subst hw'')
          all_goals go_wp2_with fail
          all_goals go_meet
          all_goals go_light
          all_goals (refine ⟨congrArg Value.bool ?_, nq, rfl⟩; rw [← HCB.out]; simp [*]; try (intros; exfalso; omega))
      case rest =>
        obtain ⟨rfl, nq, rfl⟩ := hcut
        cases cb
        · go_wp2_with fail
          go_roundg (m.length - 1 - (k + 1))
          case measure => omega
          case rel =>
            refine ⟨k + 1, by omega, rfl, by go_num, ?_, drewN_below hb _⟩
            rw [HST.out, HCB.out]
            exact ho.drewN nq
        · have p0' : (wr.drewN nq).cell? ⟨b, off + k, none⟩ = some (.int .i32 A) := by simpa using p0
          have p1' : (wr.drewN nq).cell? ⟨b, off + (k + 1), none⟩ = some (.int .i32 C) := by simpa using p1
          have ho' := ho.drewN nq
          have hb' := drewN_below hb nq
          have hs2' := hb'.size
          clear p0 p1 ho hb hs2 hw hbl
          generalize wr.drewN nq = wd at p0' p1' ho' hb' hs2'
          go_wp2_with fail
          have s1 : IntKind.i64.wrap ((k : Int) + 1) = (k : Int) + 1 := IntWalk.i64_in _ (by omega)
          have s2 : IntKind.i32.wrap (C - 1) = C - 1 := IntWalk.i32_in _ (by omega)
          have s3 : ((k : Int) + 1).toNat = k + 1 := by omega
          have s4 : (0 : Int) ≤ (k : Int) + 1 := by omega
          go_still_tail 11, (by kernel_rfl)
          change wpList _ _ _ _ _ wd.drew
          have ho2 : OwnR w1.heap.size wd.drew u4 out := ho'
          have hb2 : Below w1.heap.size w1 wd.drew := hb'.drew
          have hs3 : w1.heap.size ≤ wd.drew.heap.size := hs2'
          clear s1 s2 s3 s4 ho' hb' hs2' p0' p1'
          generalize wd.drew = w2 at ho2 hb2 hs3
          have cp := Lib.hid (piece A (C - 1) ho2 HFB.out (by omega) hs3)
          go_wp2_with (refine cp.out.mono ?_; rintro e w3 ⟨v3, rfl, o3, b3⟩)
          go_roundg (m.length - 1 - (k + 1))
          case measure => omega
          case rel =>
            refine ⟨k + 1, by omega, rfl, by go_num, ?_, hb2.trans b3⟩
            rw [HST.out, HCB.out]
            exact o3
    · obtain rfl : k = m.length - 1 := by omega
      have ik : ¬ ((m.length - 1 : Nat) : Int) + 1 < (m.length : Int) := by omega
      go_wp2_with fail
      go_ret
      exact ⟨_, m, rfl, HP.out, HPW.out, ho.mono hs1, b1.trans (hb.mono hs1)⟩
end Go.Proofs.Ytocbpbeklbhjkaa.cls
