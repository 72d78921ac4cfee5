/- class.Make: what it makes, of a sorted list of the ranges' runes. -/
import Derived.Test.YtocbpbeklbhjkaaSort
import Derived.Test.YtocbpbeklbhjkaaRef1
import Derived.Deep.DeepMust
import Derived.RegionTactic
namespace Go.Proofs.Ytocbpbeklbhjkaa.cls
open Go.RowKit Go.Proofs.Ytocbpbeklbhjkaa.sl
def mergeStep (out : List Rg) (r : Rg) : List Rg :=
  match out.getLast? with
  | some p => if r.1 ≤ p.2 + 1 then out.dropLast ++ [(p.1, max p.2 r.2)] else out ++ [r]
  | none => [r]
def mergeF (l : List Rg) : List Rg := l.foldl mergeStep []
def InR (r : Rg) : Prop := 0 ≤ r.1 ∧ r.1 ≤ r.2 ∧ r.2 ≤ 1114111
theorem runes_in (x : Rg) : ∀ r ∈ runesF x, InR r := by
  intro r hr
  simp only [runesF, List.mem_flatMap] at hr
  obtain ⟨p, hp, hr⟩ := hr
  unfold clip at hr
  split at hr
  · simp at hr
    subst hr
    simp [parts] at hp
    rcases hp with rfl | rfl <;> simp [InR] <;> omega
  · simp at hr
theorem mergeStep_in {out : List Rg} {r : Rg} (h : ∀ p ∈ out, InR p) (hr : InR r) : ∀ p ∈ mergeStep out r, InR p := by
  intro p hp
  unfold mergeStep at hp
  split at hp
  · rename_i q hq
    have hqm : q ∈ out := List.mem_of_getLast? hq
    have hqi := h q hqm
    split at hp
    · rcases List.mem_append.1 hp with hp | hp
      · exact h p ((List.dropLast_sublist out).subset hp)
      · simp at hp
        subst hp
        simp [InR] at *
        omega
    · rcases List.mem_append.1 hp with hp | hp
      · exact h p hp
      · simp at hp
        subst hp
        exact hr
  · simp at hp
    subst hp
    exact hr
theorem mergeStep_len (out : List Rg) (r : Rg) : (mergeStep out r).length ≤ out.length + 1 := by
  unfold mergeStep
  split
  · split <;> simp
  · simp
theorem mergeF_take {s : List Rg} {k : Nat} {x : Rg} (h : s[k]? = some x) : mergeF (s.take (k + 1)) = mergeStep (mergeF (s.take k)) x := by
  unfold mergeF
  rw [List.take_add_one, h, List.foldl_append]
  rfl
theorem mergeF_in {s : List Rg} (h : ∀ p ∈ s, InR p) : ∀ p ∈ mergeF s, InR p := by
  have gen : ∀ (s out : List Rg), (∀ p ∈ s, InR p) → (∀ p ∈ out, InR p) → ∀ p ∈ s.foldl mergeStep out, InR p := by
    intro s
    induction s with
    | nil => intro out _ h; exact h
    | cons x t ih => intro out hs ho; exact ih _ (fun p hp => hs p (by simp [hp])) (mergeStep_in ho (hs x (by simp)))
  exact gen s [] h (by simp)
theorem mergeF_len (s : List Rg) : (mergeF s).length ≤ s.length := by
  have gen : ∀ (s out : List Rg), (s.foldl mergeStep out).length ≤ out.length + s.length := by
    intro s
    induction s with
    | nil => intro out; simp
    | cons x t ih => intro out; have := ih (mergeStep out x); have := mergeStep_len out x; simp only [List.foldl_cons, List.length_cons]; omega
  simpa [mergeF] using gen s []
set_option maxHeartbeats 4000000 in
set_option maxRecDepth 100000 in
theorem makeLoop (a : Option Addr) (l : List Rg) (cap : Nat) (w : World) (h : Rd er w a l cap) (hl : l.length ≤ 100000000) :
    Calls Try.prog 9 #[.slice a l.length cap] w fun e w' => ∃ v s, e = .returned v ∧ s.Perm (l.flatMap runesF) ∧ s.Pairwise (fun a b => a.1 ≤ b.1) ∧ OwnR w.heap.size w' v (mergeF s) ∧ Below w.heap.size w w' := by
  have hm := h.max
  have hle := h.le
  unfold maxLen at hm
  have H := Lib.hid h
  clear h
  go_enter Try.func9, Try.ntmps9
  go_wp2_with fail
  go_loopg [3, 12] l.length (fun g v i wr => ∃ k : Nat, k ≤ l.length ∧ g = l.length - k ∧ i = .int .i64 k ∧ OwnR w.heap.size wr v ((l.take k).flatMap runesF) ∧ Below w.heap.size w wr)
  case atStart => exact ⟨0, by omega, rfl, rfl, Own.nil _ _ _ _ _, Below.refl _ _⟩
  case round =>
    obtain ⟨k, hk, rfl, rfl, ho, hb⟩ := hrel
    have hs := hb.size
    have hlen := flat_len_le runesF 2 runes_len (l.take k)
    have hlt2 : (l.take k).length ≤ l.length := by simp; omega
    by_cases hlt : k < l.length
    · obtain ⟨⟨x0, x1⟩, hx⟩ : ∃ x, l[k]? = some x := ⟨_, List.getElem?_eq_getElem hlt⟩
      obtain ⟨b, off, rfl, hbl, c0, c1⟩ := Rd.pair (H.out.kept hb) hx
      have HX := Lib.hid hx
      clear hx
      go_wp2_with fail
      refine (runes x0 x1 _).mono ?_
      rintro e w1 ⟨v1, rfl, o1, b1⟩
      obtain ⟨a1, cap1, rfl, rd1, hge⟩ := o1.rd
      have hr2 := runes_len (x0, x1)
      have ho1 : OwnR w.heap.size w1 u3 ((l.take k).flatMap runesF) := (ho.alloc _).below b1 (Nat.le_refl _)
      have hb1 : Below w.heap.size w w1 := hb.trans ((((Below.refl wr.heap.size wr).alloc (Nat.le_refl _) _).mono hs).trans (b1.mono (by simp; omega)))
      have hs1 := hb1.size
      have hmx : ((l.take k).flatMap runesF).length + (runesF (x0, x1)).length ≤ 1000000000 := by omega
      clear o1 b1 hge
      go_wp2_with (at_builtin; go_must (refine wpList_app elem_rg rfl rfl rfl rfl ho1 rd1 rfl er_len er_one hmx (by omega) hs1 ?_); intro v2 w2 o2 g2)
      go_roundg (l.length - (k + 1))
      case measure => omega
      case rel => exact ⟨k + 1, by omega, rfl, by go_num, by rw [take_flat _ HX.out]; exact o2, Below.grow hb1 ho1 g2 (Nat.le_refl _) hs1⟩
    · obtain rfl : k = l.length := by omega
      rw [List.take_length] at ho hlen
      have hin : ∀ r ∈ l.flatMap runesF, InR r := by
        intro r hr
        obtain ⟨x, _, hx⟩ := List.mem_flatMap.1 hr
        exact runes_in x r hx
      have HIN := Lib.hid hin
      go_wp2_with fail
      refine (sort ho (fun r hr => ⟨(HIN.out r hr).1, by have := HIN.out r hr; unfold InR at this; omega⟩) (by omega) hs).mono ?_
      rintro e w1 ⟨rfl, s, hp, hpw, o1, b1⟩
      have hsl : s.length = (l.flatMap runesF).length := hp.length_eq
      have hsl2 : s.length ≤ 200000000 := by omega
      have hb1 : Below w.heap.size w w1 := hb.trans b1
      have HI : Hid (∀ r ∈ s, InR r) := Lib.hid fun r hr => HIN.out r (hp.mem_iff.1 hr)
      have HP := Lib.hid hp
      have HPW := Lib.hid hpw
      clear hp hpw hsl HIN hin ho hb b1
      obtain ⟨a1, cap1, rfl, rd1, hge⟩ := o1.rd
      have hm1 := rd1.max
      have hle1 := rd1.le
      unfold maxLen at hm1
      have RD := Lib.hid rd1
      clear rd1 hge o1
      go_wp2_with fail
      go_loopg [4, 25] s.length (fun g v i wr => ∃ k : Nat, k ≤ s.length ∧ g = s.length - k ∧ i = .int .i64 k ∧ OwnR w1.heap.size wr v (mergeF (s.take k)) ∧ Below w1.heap.size w1 wr)
      case atStart => exact ⟨0, by omega, rfl, rfl, Own.nil _ _ _ _ _, Below.refl _ _⟩
      case round =>
        obtain ⟨k, hk, rfl, rfl, ho, hb⟩ := hrel
        have hs2 := hb.size
        have hlen := mergeF_len (s.take k)
        have htl : (s.take k).length ≤ s.length := by simp; omega
        have hoi : ∀ p ∈ mergeF (s.take k), InR p := mergeF_in fun p hp => HI.out p (List.mem_of_mem_take hp)
        by_cases hlt : k < s.length
        · obtain ⟨⟨x0, x1⟩, hx⟩ : ∃ x, s[k]? = some x := ⟨_, List.getElem?_eq_getElem hlt⟩
          have hxi : InR (x0, x1) := HI.out _ (List.mem_of_getElem? hx)
          obtain ⟨hx0, hx1, hx2⟩ := hxi
          simp only at hx0 hx1 hx2
          obtain ⟨b, off, rfl, hbl, c0, c1⟩ := Rd.pair (RD.out.kept hb) hx
          have he := mergeF_take hx
          have HE := Lib.hid he
          clear hx he
          generalize mergeF (s.take k) = out at ho hlen hoi HE
          rcases List.eq_nil_or_concat out with rfl | ⟨o0, p, rfl⟩
          · obtain ⟨ao, co, rfl, rdo, _⟩ := ho.rd
            clear rdo
            have hst : mergeStep [] (x0, x1) = [] ++ [(x0, x1)] := rfl
            have HST := Lib.hid hst
            clear hst hoi
            simp only [List.length_nil] at *
            go_wp2_with fail
            go_quiet (fail)
            go_wp2_with (at_builtin; go_must (refine wpList_app1 elem_rg rfl rfl rfl rfl (by simp) ((ho.alloc _).drewN _) (x0, x1) rfl er_len er_one (by simp) (by omega) (by simp; omega) ?_); intro v2 w2 o2 g2)
            go_roundg (s.length - (k + 1))
            case measure => omega
            case rel =>
              refine ⟨k + 1, by omega, rfl, by go_num, ?_, ?_⟩
              · rw [HE.out, HST.out]; exact o2
              · exact grow_below (drewN_below (hb.alloc hs2 _) _) ((ho.alloc _).drewN _) g2 (Nat.le_refl _) (by simp; omega)
          · rw [List.concat_eq_append] at *
            have hst : mergeStep (o0 ++ [p]) (x0, x1) = if x0 ≤ p.2 + 1 then o0 ++ [(p.1, max p.2 x1)] else o0 ++ [p] ++ [(x0, x1)] := by simp [mergeStep]
            have HST := Lib.hid hst
            obtain ⟨hp0, hp1, hp2⟩ := hoi p (by simp)
            obtain ⟨g, co, rfl, hBg, hg, hlc, hcm⟩ := ho.form (by simp)
            obtain ⟨d0, d1, f0, f1⟩ := own_pair ho rfl (i := o0.length) (x := p) (by simp)
            have HO := Lib.hid ho
            clear hst hoi ho
            simp only [List.length_append, List.length_cons, List.length_nil] at *
            cases hq : decide (x0 ≤ p.2 + 1)
            · have hq' : p.2 + 1 < x0 := by simpa using hq
              clear hq
              go_wp2_with fail
              go_quiet (fail)
              go_wp2_with (at_builtin; go_must (refine wpList_app1 elem_rg rfl rfl rfl rfl (by simp) ((HO.out.alloc _).drewN _) (x0, x1) rfl er_len er_one (by simp; omega) (by omega) (by simp; omega) ?_); intro v2 w2 o2 g2)
              go_roundg (s.length - (k + 1))
              case measure => omega
              case rel =>
                refine ⟨k + 1, by omega, rfl, by go_num, ?_, ?_⟩
                · rw [HE.out, HST.out, if_neg (by omega)]; exact o2
                · exact grow_below (drewN_below (hb.alloc hs2 _) _) ((HO.out.alloc _).drewN _) g2 (Nat.le_refl _) (by simp; omega)
            · have hq' : x0 ≤ p.2 + 1 := by simpa using hq
              clear hq
              go_wp2_with fail
              go_quiet (fail)
              go_wp2_with fail
              go_region
              all_goals go_wp2_with fail
              go_roundg (s.length - (k + 1))
              case measure => omega
              case rel =>
                refine ⟨k + 1, by omega, rfl, by go_num, ?_, ?_⟩
                · rw [HE.out, HST.out, if_pos hq']
                  have := Own.store (t := 1) (y := (p.1, max p.2 x1)) (u := .int .i32 (max p.2 x1)) ((HO.out.alloc (.cells #[.int .i32 x0, .int .i32 x1] 25)).drewN (nq + 1)) (by simp) er_len (i := o0.length) (x := p) (by simp) (by omega) rfl
                  simpa using this
                · exact (drewN_below (hb.alloc hs2 _) _).setCell hBg _
        · obtain rfl : k = s.length := by omega
          go_wp2_with fail
          go_ret
          refine ⟨_, s, rfl, HP.out, HPW.out, ?_, ?_⟩
          · rw [List.take_length] at ho
            exact ho.mono hb1.size
          · exact hb1.trans (hb.mono hb1.size)
end Go.Proofs.Ytocbpbeklbhjkaa.cls
