/- class.Make: what it makes, of a sorted list of the ranges' runes. -/
import Derived.Test.YtooockbfagkknaaGreatDoorSort
import Derived.Test.YtooockbfagkknaaGreatDoorBase
import Derived.Deep.DeepMust
import Derived.RegionTactic
namespace Go.Proofs.YtooockbfagkknaaGreatDoor.cls
open Go.RowKit Go.Proofs.YtooockbfagkknaaGreatDoor.sl
def mergeStep (out : List Rg) (r : Rg) : List Rg :=
  match out.getLast? with
  | some p => if r.1 ≤ p.2 + 1 then out.dropLast ++ [(p.1, max p.2 r.2)] else out ++ [r]
  | none => [r]
def mergeF (l : List Rg) : List Rg := l.foldl mergeStep []
def InR (r : Rg) : Prop := 0 ≤ r.1 ∧ r.1 ≤ r.2 ∧ r.2 ≤ 1114111
theorem runes_in (x : Rg) : ∀ r ∈ runesF x, InR r := by
  intro r hr
  simp only [runesF, List.mem_flatMap] at hr
  obtain ⟨p, hp, hr⟩ := hr
  unfold clip at hr
  split at hr
  · simp at hr
    subst hr
    simp [parts] at hp
    rcases hp with rfl | rfl <;> simp [InR] <;> omega
  · simp at hr
theorem mergeStep_in {out : List Rg} {r : Rg} (h : ∀ p ∈ out, InR p) (hr : InR r) : ∀ p ∈ mergeStep out r, InR p := by
  intro p hp
  unfold mergeStep at hp
  split at hp
  · rename_i q hq
    have hqm : q ∈ out := List.mem_of_getLast? hq
    have hqi := h q hqm
    split at hp
    · rcases List.mem_append.1 hp with hp | hp
      · exact h p ((List.dropLast_sublist out).subset hp)
      · simp at hp
        subst hp
        simp [InR] at *
        omega
    · rcases List.mem_append.1 hp with hp | hp
      · exact h p hp
      · simp at hp
        subst hp
        exact hr
  · simp at hp
    subst hp
    exact hr
theorem mergeStep_len (out : List Rg) (r : Rg) : (mergeStep out r).length ≤ out.length + 1 := by
  unfold mergeStep
  split
  · split <;> simp
  · simp
theorem mergeF_take {s : List Rg} {k : Nat} {x : Rg} (h : s[k]? = some x) : mergeF (s.take (k + 1)) = mergeStep (mergeF (s.take k)) x := by
  unfold mergeF
  rw [List.take_add_one, h, List.foldl_append]
  rfl
theorem mergeF_in {s : List Rg} (h : ∀ p ∈ s, InR p) : ∀ p ∈ mergeF s, InR p := by
  have gen : ∀ (s out : List Rg), (∀ p ∈ s, InR p) → (∀ p ∈ out, InR p) → ∀ p ∈ s.foldl mergeStep out, InR p := by
    intro s
    induction s with
    | nil => intro out _ h; exact h
    | cons x t ih => intro out hs ho; exact ih _ (fun p hp => hs p (by simp [hp])) (mergeStep_in ho (hs x (by simp)))
  exact gen s [] h (by simp)
theorem mergeF_len (s : List Rg) : (mergeF s).length ≤ s.length := by
  have gen : ∀ (s out : List Rg), (s.foldl mergeStep out).length ≤ out.length + s.length := by
    intro s
    induction s with
    | nil => intro out; simp
    | cons x t ih => intro out; have := ih (mergeStep out x); have := mergeStep_len out x; simp only [List.foldl_cons, List.length_cons]; omega
  simpa [mergeF] using gen s []
set_option maxHeartbeats 4000000 in
set_option maxRecDepth 100000 in
theorem makeLoop (a : Option Addr) (l : List Rg) (cap : Nat) (w : World) (h : Rd er w a l cap) (hl : l.length ≤ 100000000) :
    Calls Tryz.prog 74 #[.slice a l.length cap] w fun e w' => ∃ v s, e = .returned v ∧ s.Perm (l.flatMap runesF) ∧ s.Pairwise (fun a b => a.1 ≤ b.1) ∧ OwnR w.heap.size w' v (mergeF s) ∧ Below w.heap.size w w' := by
  have hm := h.max
  have hle := h.le
  unfold maxLen at hm
  have H := Lib.hid h
  clear h
  go_enter Tryz.func74, Tryz.ntmps74
  go_wp2_with fail
  go_loopg [3, 12] l.length (fun g v i wr => ∃ k : Nat, k ≤ l.length ∧ g = l.length - k ∧ i = .int .i64 k ∧ OwnR w.heap.size wr v ((l.take k).flatMap runesF) ∧ Below w.heap.size w wr)
  case atStart => exact ⟨0, by omega, rfl, rfl, Own.nil _ _ _ _ _, Below.refl _ _⟩
  case round =>
    obtain ⟨k, hk, rfl, rfl, ho, hb⟩ := hrel
    have hs := hb.size
    have hlen := flat_len_le runesF 2 runes_len (l.take k)
    have hlt2 : (l.take k).length ≤ l.length := by simp; omega
    by_cases hlt : k < l.length
    · obtain ⟨⟨x0, x1⟩, hx⟩ : ∃ x, l[k]? = some x := ⟨_, List.getElem?_eq_getElem hlt⟩
      obtain ⟨b, off, rfl, hbl, c0, c1⟩ := Rd.pair (H.out.kept hb) hx
      have HX := Lib.hid hx
      clear hx
      go_wp2_with fail
      refine (runes x0 x1 _).mono ?_
      rintro e w1 ⟨v1, rfl, o1, b1⟩
      obtain ⟨a1, cap1, rfl, rd1, hge⟩ := o1.rd
      have hr2 := runes_len (x0, x1)
      have ho1 : OwnR w.heap.size w1 u3 ((l.take k).flatMap runesF) := (ho.alloc _).below b1 (Nat.le_refl _)
      have hb1 : Below w.heap.size w w1 := hb.trans ((((Below.refl wr.heap.size wr).alloc (Nat.le_refl _) _).mono hs).trans (b1.mono (by simp; omega)))
      have hs1 := hb1.size
      have hmx : ((l.take k).flatMap runesF).length + (runesF (x0, x1)).length ≤ 1000000000 := by omega
      clear o1 b1 hge
      go_wp2_with (at_builtin; go_must (refine wpList_app elem_rg rfl rfl rfl rfl ho1 rd1 rfl er_len er_one hmx (by omega) hs1 ?_); intro v2 w2 o2 g2)
      go_roundg (l.length - (k + 1))
      case measure => omega
      case rel => exact ⟨k + 1, by omega, rfl, by go_num, by rw [take_flat _ HX.out]; exact o2, Below.grow hb1 ho1 g2 (Nat.le_refl _) hs1⟩
    · obtain rfl : k = l.length := by omega
      rw [List.take_length] at ho hlen
      have hin : ∀ r ∈ l.flatMap runesF, InR r := by
        intro r hr
        obtain ⟨x, _, hx⟩ := List.mem_flatMap.1 hr
        exact runes_in x r hx
      have HIN := Lib.hid hin
      go_wp2_with fail
      refine (sort ho (fun r hr => ⟨(HIN.out r hr).1, by have := HIN.out r hr; unfold InR at this; omega⟩) (by omega) hs).mono ?_
      rintro e w1 ⟨rfl, s, hp, hpw, o1, b1⟩
      have hsl : s.length = (l.flatMap runesF).length := hp.length_eq
      have hsl2 : s.length ≤ 200000000 := by omega
      have hb1 : Below w.heap.size w w1 := hb.trans b1
      have HI : Hid (∀ r ∈ s, InR r) := Lib.hid fun r hr => HIN.out r (hp.mem_iff.1 hr)
      have HP := Lib.hid hp
      have HPW := Lib.hid hpw
      clear hp hpw hsl HIN hin ho hb b1
      obtain ⟨a1, cap1, rfl, rd1, hge⟩ := o1.rd
      have hm1 := rd1.max
      have hle1 := rd1.le
      unfold maxLen at hm1
      have RD := Lib.hid rd1
      clear rd1 hge o1
      go_wp2_with fail
      go_loopg [4, 25] s.length (fun g v i wr => ∃ k : Nat, k ≤ s.length ∧ g = s.length - k ∧ i = .int .i64 k ∧ OwnR w1.heap.size wr v (mergeF (s.take k)) ∧ Below w1.heap.size w1 wr)
      case atStart => exact ⟨0, by omega, rfl, rfl, Own.nil _ _ _ _ _, Below.refl _ _⟩
      case round =>
        obtain ⟨k, hk, rfl, rfl, ho, hb⟩ := hrel
        have hs2 := hb.size
        have hlen := mergeF_len (s.take k)
        have htl : (s.take k).length ≤ s.length := by simp; omega
        have hoi : ∀ p ∈ mergeF (s.take k), InR p := mergeF_in fun p hp => HI.out p (List.mem_of_mem_take hp)
        by_cases hlt : k < s.length
        · obtain ⟨⟨x0, x1⟩, hx⟩ : ∃ x, s[k]? = some x := ⟨_, List.getElem?_eq_getElem hlt⟩
          have hxi : InR (x0, x1) := HI.out _ (List.mem_of_getElem? hx)
          obtain ⟨hx0, hx1, hx2⟩ := hxi
          simp only at hx0 hx1 hx2
          obtain ⟨b, off, rfl, hbl, c0, c1⟩ := Rd.pair (RD.out.kept hb) hx
          have he := mergeF_take hx
          have HE := Lib.hid he
          clear hx he
          generalize mergeF (s.take k) = out at ho hlen hoi HE
          rcases List.eq_nil_or_concat out with rfl | ⟨o0, p, rfl⟩
          · obtain ⟨ao, co, rfl, rdo, _⟩ := ho.rd
            clear rdo
            have hst : mergeStep [] (x0, x1) = [] ++ [(x0, x1)] := rfl
            have HST := Lib.hid hst
            clear hst hoi
            simp only [List.length_nil] at *
            go_wp2_with fail
            go_quiet (fail)
            go_wp2_with (at_builtin; go_must (refine wpList_app1 elem_rg rfl rfl rfl rfl (by simp) ((ho.alloc _).drewN _) (x0, x1) rfl er_len er_one (by simp) (by omega) (by simp; omega) ?_); intro v2 w2 o2 g2)
            go_roundg (s.length - (k + 1))
            case measure => omega
            case rel =>
              refine ⟨k + 1, by omega, rfl, by go_num, ?_, ?_⟩
              · rw [HE.out, HST.out]; exact o2
              · exact grow_below (drewN_below (hb.alloc hs2 _) _) ((ho.alloc _).drewN _) g2 (Nat.le_refl _) (by simp; omega)
          · rw [List.concat_eq_append] at *
            have hst : mergeStep (o0 ++ [p]) (x0, x1) = if x0 ≤ p.2 + 1 then o0 ++ [(p.1, max p.2 x1)] else o0 ++ [p] ++ [(x0, x1)] := by simp [mergeStep]
            have HST := Lib.hid hst
            obtain ⟨hp0, hp1, hp2⟩ := hoi p (by simp)
            obtain ⟨g, co, rfl, hBg, hg, hlc, hcm⟩ := ho.form (by simp)
            obtain ⟨d0, d1, f0, f1⟩ := own_pair ho rfl (i := o0.length) (x := p) (by simp)
            have HO := Lib.hid ho
            clear hst hoi ho
            simp only [List.length_append, List.length_cons, List.length_nil] at *
            cases hq : decide (x0 ≤ p.2 + 1)
            · have hq' : p.2 + 1 < x0 := by simpa using hq
              clear hq
              go_wp2_with fail
              go_quiet (fail)
              go_wp2_with (at_builtin; go_must (refine wpList_app1 elem_rg rfl rfl rfl rfl (by simp) ((HO.out.alloc _).drewN _) (x0, x1) rfl er_len er_one (by simp; omega) (by omega) (by simp; omega) ?_); intro v2 w2 o2 g2)
              go_roundg (s.length - (k + 1))
              case measure => omega
              case rel =>
                refine ⟨k + 1, by omega, rfl, by go_num, ?_, ?_⟩
                · rw [HE.out, HST.out, if_neg (by omega)]; exact o2
                · exact grow_below (drewN_below (hb.alloc hs2 _) _) ((HO.out.alloc _).drewN _) g2 (Nat.le_refl _) (by simp; omega)
            · have hq' : x0 ≤ p.2 + 1 := by simpa using hq
              clear hq
              go_wp2_with fail
              go_quiet (fail)
              go_wp2_with fail
              go_region
              all_goals go_wp2_with fail
              go_roundg (s.length - (k + 1))
              case measure => omega
              case rel =>
                refine ⟨k + 1, by omega, rfl, by go_num, ?_, ?_⟩
                · rw [HE.out, HST.out, if_pos hq']
                  have := Own.store (t := 1) (y := (p.1, max p.2 x1)) (u := .int .i32 (max p.2 x1)) ((HO.out.alloc (.cells #[.int .i32 x0, .int .i32 x1] 58)).drewN (nq + 1)) (by simp) er_len (i := o0.length) (x := p) (by simp) (by omega) rfl
                  simpa using this
                · exact (drewN_below (hb.alloc hs2 _) _).setCell hBg _
        · obtain rfl : k = s.length := by omega
          go_wp2_with fail
          go_ret
          refine ⟨_, s, rfl, HP.out, HPW.out, ?_, ?_⟩
          · rw [List.take_length] at ho
            exact ho.mono hb1.size
          · exact hb1.trans (hb.mono hb1.size)
end Go.Proofs.YtooockbfagkknaaGreatDoor.cls
/- Lists of ranges, plainly: what is in; the form that Make answers in; there is but one list of a form with the same runes. -/
namespace Go.Proofs.YtooockbfagkknaaGreatDoor.cls
open Go.RowKit
def InP (p : Rg) : Prop := 0 ≤ p.1 ∧ p.1 ≤ p.2 ∧ p.2 ≤ 1114111 ∧ (p.2 < 55296 ∨ 57343 < p.1)
def Good (l : List Rg) : Prop := (∀ p ∈ l, InP p) ∧ l.Pairwise (fun p q => p.2 + 1 < q.1)
theorem has_iff (l : List Rg) (r : Int) : hasB l r = true ↔ ∃ p ∈ l, p.1 ≤ r ∧ r ≤ p.2 := by
  simp [hasB, List.any_eq_true]
theorem has_cons (p : Rg) (l : List Rg) (r : Int) : hasB (p :: l) r = ((decide (p.1 ≤ r) && decide (r ≤ p.2)) || hasB l r) := rfl
theorem has_append (l m : List Rg) (r : Int) : hasB (l ++ m) r = (hasB l r || hasB m r) := by simp [hasB]
theorem has_perm {l m : List Rg} (h : l.Perm m) (r : Int) : hasB l r = hasB m r := by
  rw [Bool.eq_iff_iff, has_iff, has_iff]
  constructor
  · rintro ⟨p, hp, h1⟩; exact ⟨p, h.mem_iff.1 hp, h1⟩
  · rintro ⟨p, hp, h1⟩; exact ⟨p, h.mem_iff.2 hp, h1⟩
theorem valid_iff (r : Int) : validB r = true ↔ 0 ≤ r ∧ r ≤ 1114111 ∧ (r < 55296 ∨ 57343 < r) := by
  simp [validB]
  omega
theorem good_tail {p : Rg} {l : List Rg} (h : Good (p :: l)) : Good l := ⟨fun q hq => h.1 q (by simp [hq]), (List.pairwise_cons.1 h.2).2⟩
theorem good_low {p : Rg} {l : List Rg} (h : Good (p :: l)) {r : Int} (hr : hasB l r = true) : p.2 + 1 < r := by
  obtain ⟨q, hq, h1, h2⟩ := (has_iff _ _).1 hr
  have := (List.pairwise_cons.1 h.2).1 q hq
  omega
theorem good_first {p : Rg} {l : List Rg} (h : Good (p :: l)) {r : Int} (hr : hasB (p :: l) r = true) : p.1 ≤ r := by
  rw [has_cons, Bool.or_eq_true] at hr
  rcases hr with hr | hr
  · simp at hr; omega
  · have := good_low h hr
    have := h.1 p (by simp)
    unfold InP at this
    omega
theorem good_uniq : ∀ {l m : List Rg}, Good l → Good m → (∀ r, hasB l r = hasB m r) → l = m
  | [], [], _, _, _ => rfl
  | [], q :: u, _, hm, h => by
    have := h q.1
    have hq := hm.1 q (by simp)
    unfold InP at hq
    rw [has_cons] at this
    simp [hasB] at this
    omega
  | p :: t, [], hl, _, h => by
    have := h p.1
    have hq := hl.1 p (by simp)
    unfold InP at hq
    rw [has_cons] at this
    simp [hasB] at this
    omega
  | p :: t, q :: u, hl, hm, h => by
    have ip := hl.1 p (by simp)
    have iq := hm.1 q (by simp)
    unfold InP at ip iq
    have inp : ∀ r, p.1 ≤ r → r ≤ p.2 → hasB (p :: t) r = true := fun r a b => by rw [has_cons]; simp [a, b]
    have inq : ∀ r, q.1 ≤ r → r ≤ q.2 → hasB (q :: u) r = true := fun r a b => by rw [has_cons]; simp [a, b]
    have e1 : p.1 = q.1 := by
      have a := good_first hm ((h p.1).symm.trans (inp p.1 (by omega) (by omega)))
      have b := good_first hl ((h q.1).trans (inq q.1 (by omega) (by omega)))
      omega
    have e2 : p.2 = q.2 := by
      rcases Int.lt_trichotomy p.2 q.2 with hlt | he | hlt
      · have a := (h (p.2 + 1)).trans (inq (p.2 + 1) (by omega) (by omega))
        rw [has_cons, Bool.or_eq_true] at a
        rcases a with a | a
        · simp at a; omega
        · have := good_low hl a; omega
      · exact he
      · have a := (h (q.2 + 1)).symm.trans (inp (q.2 + 1) (by omega) (by omega))
        rw [has_cons, Bool.or_eq_true] at a
        rcases a with a | a
        · simp at a; omega
        · have := good_low hm a; omega
    have epq : p = q := Prod.ext e1 e2
    subst epq
    congr 1
    refine good_uniq (good_tail hl) (good_tail hm) fun r => ?_
    by_cases hr : p.1 ≤ r ∧ r ≤ p.2
    · have f1 : hasB t r = false := by
        rcases ht : hasB t r with _ | _
        · rfl
        · have := good_low hl ht; omega
      have f2 : hasB u r = false := by
        rcases ht : hasB u r with _ | _
        · rfl
        · have := good_low hm ht; omega
      rw [f1, f2]
    · have := h r
      rw [has_cons, has_cons] at this
      have e : (decide (p.1 ≤ r) && decide (r ≤ p.2)) = false := by simp; omega
      rw [e] at this
      simpa using this
theorem mergeStep_good {out : List Rg} {r : Rg} (h : Good out) (hr : InP r) (hlast : ∀ p ∈ out, p.1 ≤ r.1) : Good (mergeStep out r) ∧ (∀ p ∈ mergeStep out r, p.1 ≤ r.1) ∧ ∀ x, hasB (mergeStep out r) x = (hasB out x || (decide (r.1 ≤ x) && decide (x ≤ r.2))) := by
  rcases List.eq_nil_or_concat out with rfl | ⟨o0, p, rfl⟩
  · refine ⟨⟨?_, by simp [mergeStep]⟩, ?_, fun x => ?_⟩
    · intro q hq
      simp [mergeStep] at hq
      subst hq; exact hr
    · intro q hq
      simp [mergeStep] at hq
      subst hq; exact Int.le_refl _
    · simp [mergeStep, hasB]
  · rw [List.concat_eq_append] at *
    have hst : mergeStep (o0 ++ [p]) r = if r.1 ≤ p.2 + 1 then o0 ++ [(p.1, max p.2 r.2)] else o0 ++ [p] ++ [r] := by simp [mergeStep]
    have ip := h.1 p (by simp)
    have hpr := hlast p (by simp)
    have pw := List.pairwise_append.1 h.2
    have hlo : ∀ q ∈ o0, q.2 + 1 < p.1 := fun q hq => pw.2.2 q hq p (by simp)
    unfold InP at ip hr
    rw [hst]
    by_cases hq : r.1 ≤ p.2 + 1
    · rw [if_pos hq]
      refine ⟨⟨fun q hq' => ?_, ?_⟩, fun q hq' => ?_, fun x => ?_⟩
      · rcases List.mem_append.1 hq' with hq' | hq'
        · exact h.1 q (by simp [hq'])
        · simp at hq'
          subst hq'
          simp only [InP]
          omega
      · refine List.pairwise_append.2 ⟨pw.1, by simp, fun a ha b hb => ?_⟩
        simp at hb
        subst hb
        exact hlo a ha
      · rcases List.mem_append.1 hq' with hq' | hq'
        · exact hlast q (by simp [hq'])
        · simp at hq'
          subst hq'
          exact hpr
      · rw [has_append, has_append, Bool.or_assoc]
        congr 1
        rw [Bool.eq_iff_iff]
        simp [hasB]
        omega
    · rw [if_neg hq]
      refine ⟨⟨fun q hq' => ?_, ?_⟩, fun q hq' => ?_, fun x => ?_⟩
      · rcases List.mem_append.1 hq' with hq' | hq'
        · exact h.1 q hq'
        · simp at hq'
          subst hq'
          exact hr
      · refine List.pairwise_append.2 ⟨h.2, by simp, fun a ha b hb => ?_⟩
        simp at hb
        subst hb
        rcases List.mem_append.1 ha with ha | ha
        · have := hlo a ha; omega
        · simp at ha
          subst ha
          omega
      · rcases List.mem_append.1 hq' with hq' | hq'
        · exact hlast q hq'
        · simp at hq'
          subst hq'
          exact Int.le_refl _
      · rw [has_append]
        congr 1
        simp [hasB]
theorem mergeF_good {s : List Rg} (hs : ∀ p ∈ s, InP p) (hpw : s.Pairwise (fun a b => a.1 ≤ b.1)) : Good (mergeF s) ∧ ∀ x, hasB (mergeF s) x = hasB s x := by
  have gen : ∀ (s out : List Rg), (∀ p ∈ s, InP p) → s.Pairwise (fun a b => a.1 ≤ b.1) → Good out → (∀ p ∈ out, ∀ x ∈ s, p.1 ≤ x.1) → Good (s.foldl mergeStep out) ∧ ∀ x, hasB (s.foldl mergeStep out) x = (hasB out x || hasB s x) := by
    intro s
    induction s with
    | nil => intro out _ _ h _; exact ⟨h, fun x => by simp [hasB]⟩
    | cons r t ih =>
      intro out hs hpw ho hl
      obtain ⟨g1, g2, g3⟩ := mergeStep_good ho (hs r (by simp)) (fun p hp => hl p hp r (by simp))
      have pw := List.pairwise_cons.1 hpw
      obtain ⟨k1, k2⟩ := ih _ (fun p hp => hs p (by simp [hp])) pw.2 g1 (fun p hp x hx => Int.le_trans (g2 p hp) (pw.1 x hx))
      refine ⟨k1, fun x => ?_⟩
      rw [List.foldl_cons, k2, g3, has_cons, Bool.or_assoc]
  have := gen s [] hs hpw ⟨by simp, by simp⟩ (by simp)
  simpa [hasB, mergeF] using this
theorem runes_inP (x : Rg) : ∀ r ∈ runesF x, InP r := by
  intro r hr
  simp only [runesF, List.mem_flatMap] at hr
  obtain ⟨p, hp, hr⟩ := hr
  unfold clip at hr
  split at hr
  · simp at hr
    subst hr
    simp [parts] at hp
    rcases hp with rfl | rfl <;> simp [InP] <;> omega
  · simp at hr
theorem clip_has (x p : Rg) (r : Int) : hasB (clip x p) r = (decide (x.1 ≤ r) && decide (r ≤ x.2) && (decide (p.1 ≤ r) && decide (r ≤ p.2))) := by
  unfold clip
  split
  · rw [Bool.eq_iff_iff]; simp [hasB]; omega
  · rw [Bool.eq_iff_iff]; simp [hasB]; omega
theorem runes_has (x : Rg) (r : Int) : hasB (runesF x) r = (validB r && (decide (x.1 ≤ r) && decide (r ≤ x.2))) := by
  simp only [runesF, parts, List.flatMap_cons, List.flatMap_nil, List.append_nil, has_append, clip_has]
  rw [Bool.eq_iff_iff]
  simp [validB]
  omega
theorem flat_has (l : List Rg) (r : Int) : hasB (l.flatMap runesF) r = (validB r && hasB l r) := by
  induction l with
  | nil => simp [hasB]
  | cons x t ih =>
    rw [List.flatMap_cons, has_append, ih, runes_has, has_cons]
    cases validB r <;> simp
/-- What Make answers: the form, and the runes. -/
def Makes (l m : List Rg) : Prop := Good m ∧ (∀ r, hasB m r = (validB r && hasB l r)) ∧ m.length ≤ 2 * l.length
theorem makes_of {l s : List Rg} (hp : s.Perm (l.flatMap runesF)) (hpw : s.Pairwise (fun a b => a.1 ≤ b.1)) : Makes l (mergeF s) := by
  have hin : ∀ p ∈ s, InP p := fun p hp' => by
    obtain ⟨x, _, hx⟩ := List.mem_flatMap.1 (hp.mem_iff.1 hp')
    exact runes_inP x p hx
  obtain ⟨g, hh⟩ := mergeF_good hin hpw
  refine ⟨g, fun r => ?_, ?_⟩
  · rw [hh, has_perm hp, flat_has]
  · have h1 := mergeF_len s
    have h2 := hp.length_eq
    have h3 := sl.flat_len_le runesF 2 runes_len l
    omega
theorem makes_uniq {l m m' : List Rg} (h : Makes l m) (h' : Makes l m') : m = m' := good_uniq h.1 h'.1 fun r => by rw [h.2.1, h'.2.1]
def leLo (a b : Rg) : Bool := decide (a.1 ≤ b.1)
def makeF (l : List Rg) : List Rg := mergeF ((l.flatMap runesF).mergeSort leLo)
theorem makeF_makes (l : List Rg) : Makes l (makeF l) := by
  refine makes_of (List.mergeSort_perm _ _) ?_
  have := List.pairwise_mergeSort (le := leLo) (fun a b c h1 h2 => by simp [leLo] at *; omega) (fun a b => by simp [leLo]; omega) (l.flatMap runesF)
  exact this.imp fun h => by simpa [leLo] using h
theorem makes_eq {l m : List Rg} (h : Makes l m) : m = makeF l := makes_uniq h (makeF_makes l)
theorem make (a : Option Addr) (l : List Rg) (cap : Nat) (w : World) (h : sl.Rd er w a l cap) (hl : l.length ≤ 100000000) :
    Calls Tryz.prog 74 #[.slice a l.length cap] w fun e w' => ∃ v m, e = .returned v ∧ Makes l m ∧ OwnR w.heap.size w' v m ∧ Below w.heap.size w w' :=
  (makeLoop a l cap w h hl).mono fun _ _ ⟨v, s, he, hp, hpw, ho, hb⟩ => ⟨v, mergeF s, he, makes_of hp hpw, ho, hb⟩
end Go.Proofs.YtooockbfagkknaaGreatDoor.cls
/- class.Not and class.Right. -/
namespace Go.Proofs.YtooockbfagkknaaGreatDoor.cls
open Go.RowKit Go.Proofs.YtooockbfagkknaaGreatDoor.sl
def notGo (nx : Int) : List Rg → List Rg
  | [] => [(nx, 1114111)]
  | p :: t => (nx, p.1 - 1) :: notGo (p.2 + 1) t
theorem notGo_len (nx : Int) (m : List Rg) : (notGo nx m).length = m.length + 1 := by induction m generalizing nx <;> simp_all [notGo]
theorem notGo_has : ∀ (m : List Rg) (nx : Int), Good m → (∀ p ∈ m, nx ≤ p.1) → ∀ r, r ≤ 1114111 → hasB (notGo nx m) r = (decide (nx ≤ r) && !hasB m r)
  | [], nx, _, _, r, hr => by simp [notGo, hasB, hr]
  | p :: t, nx, hg, hn, r, hr => by
    have ip := hg.1 p (by simp)
    unfold InP at ip
    have pw := List.pairwise_cons.1 hg.2
    have ih := notGo_has t (p.2 + 1) (good_tail hg) (fun q hq => by have := pw.1 q hq; omega) r hr
    have hnp := hn p (by simp)
    rw [notGo, has_cons, ih, has_cons]
    rcases ht : hasB t r with _ | _
    · rw [Bool.eq_iff_iff]; simp; omega
    · have := good_low hg ht
      rw [Bool.eq_iff_iff]; simp; omega
theorem valid_le {r : Int} (h : validB r = true) : r ≤ 1114111 ∧ 0 ≤ r := by
  have := (valid_iff r).1 h; omega
theorem cell_past {B : Nat} {w w' w2 : World} {v : Value} {l : List Rg} {x1 : Value} (ho : OwnR B w v l) (hc : w'.cell? ⟨w.heap.size, 1, none⟩ = some x1) (g : w'.grownBy w2 v.ownBlock) : w2.cell? ⟨w.heap.size, 1, none⟩ = some x1 :=
  g.cell hc fun e => Nat.lt_irrefl _ (ho.lt _ e.symm).2
def Nots (l n : List Rg) : Prop := Good n ∧ (∀ r, hasB n r = (validB r && !hasB l r)) ∧ n.length ≤ 4 * l.length + 2
theorem nots_uniq {l m m' : List Rg} (h : Nots l m) (h' : Nots l m') : m = m' := good_uniq h.1 h'.1 fun r => by rw [h.2.1, h'.2.1]
theorem nots_of {l m n : List Rg} (hm : Makes l m) (hn : Makes (notGo 0 m) n) : Nots l n := by
  refine ⟨hn.1, fun r => ?_, ?_⟩
  · rw [hn.2.1]
    rcases hv : validB r with _ | _
    · rfl
    · have := valid_le hv
      rw [notGo_has m 0 hm.1 (fun p hp => (hm.1.1 p hp).1) r this.1, hm.2.1, hv]
      simp [this.2]
  · have h1 := hn.2.2
    have h2 := hm.2.2
    rw [notGo_len] at h1
    omega
set_option maxHeartbeats 4000000 in
set_option maxRecDepth 100000 in
theorem not (a : Option Addr) (l : List Rg) (cap : Nat) (w : World) (h : Rd er w a l cap) (hl : l.length ≤ 10000000) :
    Calls Tryz.prog 59 #[.slice a l.length cap] w fun e w' => ∃ v n, e = .returned v ∧ Nots l n ∧ OwnR w.heap.size w' v n ∧ Below w.heap.size w w' := by
  have c1 := Lib.hid (make a l cap w h (by omega))
  go_enter Tryz.func59, Tryz.ntmps59
  go_wp2_with fail
  refine c1.out.mono ?_
  rintro e w1 ⟨v1, m, rfl, hm, o1, b1⟩
  clear c1
  have hs1 := b1.size
  have hlen := hm.2.2
  obtain ⟨a1, cap1, rfl, rd1, hge⟩ := o1.rd
  have hm1 := rd1.max
  have hle1 := rd1.le
  unfold maxLen at hm1
  have RD := Lib.hid rd1
  have HM := Lib.hid hm
  clear rd1 hge o1 hm h
  go_wp2_with fail
  go_loopg [3, 4, 10] m.length (fun g v nx i wr => ∃ (k : Nat) (n : Int) (out : List Rg), k ≤ m.length ∧ g = m.length - k ∧ i = .int .i64 k ∧ nx = .int .i32 n ∧ 0 ≤ n ∧ n ≤ 1114112 ∧ out.length = k ∧ notGo 0 m = out ++ notGo n (m.drop k) ∧ OwnR w1.heap.size wr v out ∧ Below w1.heap.size w1 wr)
  case atStart => exact ⟨0, 0, [], by omega, rfl, rfl, rfl, by omega, by omega, rfl, rfl, Own.nil _ _ _ _ _, Below.refl _ _⟩
  case round =>
    obtain ⟨k, n, out, hk, rfl, rfl, rfl, hn0, hn1, hol, heq, ho, hb⟩ := hrel
    have HEQ := Lib.hid heq
    have HOL := Lib.hid hol
    have hol' : out.length ≤ m.length := by omega
    clear heq hol
    have hs2 := hb.size
    by_cases hlt : k < m.length
    · obtain ⟨⟨x0, x1⟩, hx⟩ : ∃ x, m[k]? = some x := ⟨_, List.getElem?_eq_getElem hlt⟩
      have hxi := HM.out.1.1 (x0, x1) (List.mem_of_getElem? hx)
      unfold InP at hxi
      obtain ⟨hx0, hx1, hx2, _⟩ := hxi
      simp only at hx0 hx1 hx2
      obtain ⟨b, off, rfl, hbl, c0, c1⟩ := Rd.pair (RD.out.kept hb) hx
      have HX := Lib.hid hx
      clear hx
      go_wp2_with (at_builtin; go_must (refine wpList_app1 elem_rg rfl rfl rfl rfl (by simp) (ho.alloc _) (n, x0 - 1) rfl er_len er_one (by omega) (by omega) (by simp; omega) ?_); intro v2 w2 o2 g2; have hblk := cell_past (x1 := .int .i32 x1) ho (by simp [go_sem]) g2)
      have hb2 := grow_below (hb.alloc hs2 _) (ho.alloc _) g2 (Nat.le_refl _) (by simp; omega)
      go_roundg (m.length - (k + 1))
      case measure => omega
      case rel =>
        refine ⟨k + 1, x1 + 1, out ++ [(n, x0 - 1)], by omega, rfl, by go_num, rfl, by omega, by omega, by simp [HOL.out], ?_, o2, hb2⟩
        rw [HEQ.out, List.drop_eq_getElem_cons hlt]
        have hxe : m[k] = (x0, x1) := by have := HX.out; rw [List.getElem?_eq_getElem hlt] at this; exact Option.some.inj this
        rw [hxe]
        simp [notGo]
    · obtain rfl : k = m.length := by omega
      go_wp2_with (at_builtin; go_must (refine wpList_app1 elem_rg rfl rfl rfl rfl (by simp) ho (n, 1114111) rfl er_len er_one (by omega) (by omega) (by omega) ?_); intro v2 w2 o2 g2)
      have hb2 := grow_below hb ho g2 (Nat.le_refl _) hs2
      have he : out ++ [(n, 1114111)] = notGo 0 m := by rw [HEQ.out]; simp [notGo]
      rw [he] at o2
      obtain ⟨a3, cap3, rfl, rd3, _⟩ := o2.rd
      have hgl := notGo_len 0 m
      refine (make a3 (notGo 0 m) cap3 w2 rd3 (by omega)).mono ?_
      rintro e w3 ⟨v3, nn, rfl, hnn, o3, b3⟩
      go_wp2_with fail
      go_ret
      have hs3 := hb2.size
      exact ⟨_, nn, rfl, nots_of HM.out hnn, o3.mono (by omega), (b1.trans (hb2.mono hs1)).trans (b3.mono (by omega))⟩
def RightB (l : List Rg) : Prop := Makes l l
theorem right (a : Option Addr) (l : List Rg) (cap : Nat) (w : World) (h : Rd er w a l cap) (hl : l.length ≤ 100000000) :
    Calls Tryz.prog 55 #[.slice a l.length cap] w fun e w' => ∃ m, Makes l m ∧ e = .returned (.bool (decide (l = m))) ∧ Below w.heap.size w w' := by
  have c1 := Lib.hid (make a l cap w h hl)
  have H := Lib.hid h
  clear h
  go_enter Tryz.func55, Tryz.ntmps55
  go_wp2_with fail
  refine c1.out.mono ?_
  rintro e w1 ⟨v1, m, rfl, hm, o1, b1⟩
  obtain ⟨a1, cap1, rfl, rd1, hge⟩ := o1.rd
  have HM := Lib.hid hm
  clear hm c1 hge
  go_wp2_with fail
  refine (equal a a1 l m cap cap1 w1 (H.out.kept b1) rd1).mono ?_
  rintro e w2 ⟨rfl, b2⟩
  go_wp2_with fail
  go_ret
  exact ⟨m, HM.out, rfl, b1.trans (b2.mono b1.size)⟩
end Go.Proofs.YtooockbfagkknaaGreatDoor.cls
/- class.Both. -/
namespace Go.Proofs.YtooockbfagkknaaGreatDoor.cls
open Go.RowKit Go.Proofs.YtooockbfagkknaaGreatDoor.sl
def inter (x y : Rg) : Rg := (max x.1 y.1, min x.2 y.2)
def interF (ma mb : List Rg) : List Rg := ma.flatMap fun x => mb.map (inter x)
theorem inter_has (x : Rg) (mb : List Rg) (r : Int) : hasB (mb.map (inter x)) r = ((decide (x.1 ≤ r) && decide (r ≤ x.2)) && hasB mb r) := by
  induction mb with
  | nil => simp [hasB]
  | cons y t ih =>
    have e : (decide (max x.1 y.1 ≤ r) && decide (r ≤ min x.2 y.2)) = ((decide (x.1 ≤ r) && decide (r ≤ x.2)) && (decide (y.1 ≤ r) && decide (r ≤ y.2))) := by
      rw [Bool.eq_iff_iff]
      simp only [Bool.and_eq_true, decide_eq_true_eq, Int.max_le, Int.le_min]
      constructor
      · rintro ⟨⟨h1, h2⟩, h3, h4⟩; exact ⟨⟨h1, h3⟩, h2, h4⟩
      · rintro ⟨⟨h1, h3⟩, h2, h4⟩; exact ⟨⟨h1, h2⟩, h3, h4⟩
    have e2 : hasB (inter x y :: t.map (inter x)) r = ((decide (max x.1 y.1 ≤ r) && decide (r ≤ min x.2 y.2)) || hasB (t.map (inter x)) r) := rfl
    rw [List.map_cons, e2, ih, has_cons, e, Bool.and_or_distrib_left]
theorem interF_has (ma mb : List Rg) (r : Int) : hasB (interF ma mb) r = (hasB ma r && hasB mb r) := by
  induction ma with
  | nil => simp [interF, hasB]
  | cons x t ih =>
    have e : interF (x :: t) mb = mb.map (inter x) ++ interF t mb := rfl
    rw [e, has_append, inter_has, ih, has_cons]
    cases hasB mb r <;> simp
theorem interF_len (ma mb : List Rg) : (interF ma mb).length = ma.length * mb.length := by
  induction ma with
  | nil => simp [interF]
  | cons x t ih =>
    have e : interF (x :: t) mb = mb.map (inter x) ++ interF t mb := rfl
    rw [e, List.length_append, List.length_map, ih, List.length_cons, Nat.succ_mul]; omega
def Boths (a b n : List Rg) : Prop := Good n ∧ (∀ r, hasB n r = (validB r && (hasB a r && hasB b r))) ∧ n.length ≤ 8 * (a.length * b.length)
theorem boths_uniq {a b m m' : List Rg} (h : Boths a b m) (h' : Boths a b m') : m = m' := good_uniq h.1 h'.1 fun r => by rw [h.2.1, h'.2.1]
theorem boths_of {a b n : List Rg} (hn : Makes (interF (makeF a) (makeF b)) n) : Boths a b n := by
  have ha := makeF_makes a
  have hb := makeF_makes b
  refine ⟨hn.1, fun r => ?_, ?_⟩
  · rw [hn.2.1, interF_has, ha.2.1, hb.2.1]
    cases validB r <;> simp
  · have h1 := hn.2.2
    rw [interF_len] at h1
    have h2 : (makeF a).length * (makeF b).length ≤ (2 * a.length) * (2 * b.length) := Nat.mul_le_mul ha.2.2 hb.2.2
    have h3 : (2 * a.length) * (2 * b.length) = 4 * (a.length * b.length) := by rw [Nat.mul_mul_mul_comm]
    omega
theorem rd_of_own {B : Nat} {w : World} {a : Option Addr} {cap : Nat} {l : List Rg} (h : OwnR B w (.slice a l.length cap) l) : Rd er w a l cap := by
  obtain ⟨a', cap', e, hr, _⟩ := h.rd
  simp only [Value.slice.injEq, true_and] at e
  obtain ⟨rfl, rfl⟩ := e
  exact hr
theorem cell_grow {w' w2 : World} {u : Value} {X i : Nat} {x : Value} (hc : w'.cell? ⟨X, i, none⟩ = some x) (g : w'.grownBy w2 u.ownBlock) (hne : u.ownBlock ≠ some X) : w2.cell? ⟨X, i, none⟩ = some x :=
  g.cell hc fun e => hne e.symm
theorem fresh_ne {w : World} {v v' : Value} {X : Nat} (h : v.ownBlock ≠ some X) (hf : Fresh w v v') (hX : X < w.heap.size) : v'.ownBlock ≠ some X := by
  rcases hf with hf | hf | ⟨k, hf, hk⟩
  · rw [hf]; exact h
  · rw [hf]; simp
  · rw [hf]; intro e; cases e; omega
end Go.Proofs.YtooockbfagkknaaGreatDoor.cls
/- Make, Not, Both as functions of plain lists; ClassRuns walked. -/
namespace Go.Proofs.YtooockbfagkknaaGreatDoor.cls
open Go.RowKit Go.Proofs.YtooockbfagkknaaGreatDoor.sl
def notF (l : List Rg) : List Rg := makeF (notGo 0 (makeF l))
def bothF (a b : List Rg) : List Rg := makeF (interF (makeF a) (makeF b))
theorem notF_nots (l : List Rg) : Nots l (notF l) := nots_of (makeF_makes l) (makeF_makes _)
theorem bothF_boths (a b : List Rg) : Boths a b (bothF a b) := boths_of (makeF_makes _)
theorem makeC (a : Option Addr) (l : List Rg) (cap : Nat) (w : World) (h : Rd er w a l cap) (hl : l.length ≤ 100000000) :
    Calls Tryz.prog 74 #[.slice a l.length cap] w fun e w' => ∃ v, e = .returned v ∧ OwnR w.heap.size w' v (makeF l) ∧ Below w.heap.size w w' :=
  (make a l cap w h hl).mono fun _ _ ⟨v, _m, he, hm, ho, hb⟩ => ⟨v, he, makes_eq hm ▸ ho, hb⟩
theorem notC (a : Option Addr) (l : List Rg) (cap : Nat) (w : World) (h : Rd er w a l cap) (hl : l.length ≤ 10000000) :
    Calls Tryz.prog 59 #[.slice a l.length cap] w fun e w' => ∃ v, e = .returned v ∧ OwnR w.heap.size w' v (notF l) ∧ Below w.heap.size w w' :=
  (not a l cap w h hl).mono fun _ _ ⟨v, _m, he, hm, ho, hb⟩ => ⟨v, he, nots_uniq hm (notF_nots l) ▸ ho, hb⟩
theorem rightC (a : Option Addr) (l : List Rg) (cap : Nat) (w : World) (h : Rd er w a l cap) (hl : l.length ≤ 100000000) :
    Calls Tryz.prog 55 #[.slice a l.length cap] w fun e w' => e = .returned (.bool (decide (l = makeF l))) ∧ Below w.heap.size w w' :=
  (right a l cap w h hl).mono fun _ _ ⟨m, hm, he, hb⟩ => by obtain rfl := makes_eq hm; exact ⟨he, hb⟩
theorem makeF_is {l m : List Rg} (hg : Good m) (h : ∀ r, hasB m r = (validB r && hasB l r)) : makeF l = m := good_uniq (makeF_makes l).1 hg fun r => by rw [(makeF_makes l).2.1, h]
theorem notF_is {l m : List Rg} (hg : Good m) (h : ∀ r, hasB m r = (validB r && !hasB l r)) : notF l = m := good_uniq (notF_nots l).1 hg fun r => by rw [(notF_nots l).2.1, h]
theorem bothF_is {a b m : List Rg} (hg : Good m) (h : ∀ r, hasB m r = (validB r && (hasB a r && hasB b r))) : bothF a b = m := good_uniq (bothF_boths a b).1 hg fun r => by rw [(bothF_boths a b).2.1, h]
theorem m1_is : makeF [(99, 102), (97, 98), (120, 119), (101, 107)] = [(97, 107)] :=
  makeF_is ⟨by simp [InP], by simp⟩ fun r => by rw [Bool.eq_iff_iff]; simp [hasB, validB]; omega
theorem m2_is : makeF [(-5, 2), (53248, 57345), (1114111, 2097152)] = [(0, 2), (53248, 55295), (57344, 57345), (1114111, 1114111)] :=
  makeF_is ⟨by simp [InP], by simp⟩ fun r => by rw [Bool.eq_iff_iff]; simp [hasB, validB]; omega
theorem m3_is : makeF [] = [] := makeF_is ⟨by simp, by simp⟩ fun r => by simp [hasB]
theorem m4_is : notF [] = [(0, 55295), (57344, 1114111)] :=
  notF_is ⟨by simp [InP], by simp⟩ fun r => by rw [Bool.eq_iff_iff]; simp [hasB, validB]; omega
theorem m5_is : bothF [(97, 107)] [(103, 122)] = [(103, 107)] :=
  bothF_is ⟨by simp [InP], by simp⟩ fun r => by rw [Bool.eq_iff_iff]; simp [hasB, validB]; omega
theorem m6_is : makeF [(97, 107)] = [(97, 107)] :=
  makeF_is ⟨by simp [InP], by simp⟩ fun r => by rw [Bool.eq_iff_iff]; simp [hasB, validB]; omega
theorem below_next {w0 w1 w2 : World} {o : Obj} (hb : Below w0.heap.size w0 w1) (b : Below (w1.alloc o).heap.size (w1.alloc o) w2) : Below w0.heap.size w0 w2 :=
  (hb.alloc hb.size o).trans (b.mono (by have := hb.size; simp; omega))
theorem Rd.alloc {w : World} {a : Option Addr} {l : List Rg} {cap : Nat} (h : Rd er w a l cap) (o : Obj) : Rd er (w.alloc o) a l cap :=
  h.kept (by have := (Below.refl w.heap.size w).alloc (Nat.le_refl _) o; exact this)
theorem Rd.next {w w2 : World} {a : Option Addr} {l : List Rg} {cap : Nat} {o : Obj} (h : Rd er w a l cap) (b : Below (w.alloc o).heap.size (w.alloc o) w2) : Rd er w2 a l cap :=
  (Rd.alloc h o).kept b
end Go.Proofs.YtooockbfagkknaaGreatDoor.cls
