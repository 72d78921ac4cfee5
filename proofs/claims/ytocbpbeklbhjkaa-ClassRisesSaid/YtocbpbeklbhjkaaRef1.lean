/- spoorref7.Has, piece. -/
import Derived.Test.YtocbpbeklbhjkaaRunes
import Derived.Deep.DeepMust
namespace Go.Proofs.Ytocbpbeklbhjkaa.cls
open Go.RowKit Go.Proofs.Ytocbpbeklbhjkaa.sl
set_option maxHeartbeats 1000000 in
theorem refHas (a : Option Addr) (l : List Rg) (cap : Nat) (r : Int) (w : World) (h : Rd er w a l cap) :
    Calls Try.prog 28 #[.slice a l.length cap, .int .i32 r] w fun e w' => e = .returned (.bool (hasB l r)) ∧ w' = w := by
  have hm := h.max
  have hle := h.le
  unfold maxLen at hm
  have H := Lib.hid h
  clear h
  go_enter Try.func28, Try.ntmps28
  go_wp2_with fail
  go_loopg [5] l.length (fun g i wr => ∃ k : Nat, k ≤ l.length ∧ g = l.length - k ∧ i = .int .i64 k ∧ hasB l r = hasB (l.drop k) r ∧ wr = w)
  case atStart => exact ⟨0, by omega, rfl, rfl, rfl, rfl⟩
  case round =>
    obtain ⟨k, hk, rfl, rfl, hh, rfl⟩ := hrel
    have HH := Lib.hid hh
    clear hh
    by_cases hlt : k < l.length
    · obtain ⟨x, hx⟩ : ∃ x, l[k]? = some x := ⟨_, List.getElem?_eq_getElem hlt⟩
      obtain ⟨b, off, rfl, hbl, c0, c1⟩ := Rd.pair H.out hx
      have HX := Lib.hid hx
      clear hx
      go_wp2_with fail
      all_goals
        first
          | (go_ret
             refine ⟨?_, rfl⟩
             have e : (decide (x.1 ≤ r) && decide (r ≤ x.2)) = true := by simp; omega
             rw [HH.out, has_step HX.out, e]
             rfl)
          | (go_roundg (l.length - (k + 1))
             case measure => omega
             case rel =>
               refine ⟨k + 1, by omega, rfl, by go_num, ?_, rfl⟩
               have e : (decide (x.1 ≤ r) && decide (r ≤ x.2)) = false := by simp; omega
               rw [HH.out, has_step HX.out, e]
               rfl)
    · obtain rfl : k = l.length := by omega
      go_wp2_with fail
      go_ret
      exact ⟨by rw [HH.out]; simp [hasB], rfl⟩
def pieceF (l : List Rg) (lo hi : Int) : List Rg :=
  match l.getLast? with
  | some r => if r.2 + 1 = lo then l.dropLast ++ [(r.1, hi)] else l ++ [(lo, hi)]
  | none => [(lo, hi)]
theorem own_pair {B : Nat} {w : World} {g n cap : Nat} {l : List Rg} (h : OwnR B w (.slice (some ⟨g, 0, none⟩) n cap) l) (hn : n = l.length) {i : Nat} {x : Rg} (hx : l[i]? = some x) :
    w.cell? ⟨g, i * 2, none⟩ = some (.int .i32 x.1) ∧ w.cell? ⟨g, i * 2 + 1, none⟩ = some (.int .i32 x.2) ∧ w.frozen? ⟨g, i * 2, none⟩ = false ∧ w.frozen? ⟨g, i * 2 + 1, none⟩ = false :=
  ⟨(h.cellAt hn er_len hx (t := 0) (by omega) rfl).1, (h.cellAt hn er_len hx (t := 1) (by omega) rfl).1, (h.cellAt hn er_len hx (t := 0) (by omega) rfl).2, (h.cellAt hn er_len hx (t := 1) (by omega) rfl).2⟩
set_option maxHeartbeats 1000000 in
theorem piece {B : Nat} {w : World} {v : Value} {l : List Rg} (lo hi : Int) (h : OwnR B w v l) (hr : ∀ r ∈ l, -10 ≤ r.2 ∧ r.2 ≤ 1114111) (hl : l.length ≤ 1000000) (hB : B ≤ w.heap.size) :
    Calls Try.prog 29 #[v, .int .i32 lo, .int .i32 hi] w fun e w' => ∃ v', e = .returned v' ∧ OwnR B w' v' (pieceF l lo hi) ∧ Below B w w' := by
  rcases List.eq_nil_or_concat l with rfl | ⟨l0, r, rfl⟩
  · obtain ⟨a, cap, rfl, hrd, _⟩ := h.rd
    simp only [List.length_nil] at *
    go_enter Try.func29, Try.ntmps29
    go_wp2_with (at_builtin; go_must (refine wpList_app1 elem_rg rfl rfl rfl rfl (by simp) h (lo, hi) rfl er_len er_one (by simp) (by omega) hB ?_); intro v1 w1 o1 g1)
    go_ret
    exact ⟨_, rfl, o1, grow_below (Below.refl _ _) h g1 (Nat.le_refl _) hB⟩
  · rw [List.concat_eq_append] at *
    obtain ⟨g, cap, rfl, hBg, hg, hlc, hcm⟩ := h.form (by simp)
    have hx : (l0 ++ [r])[l0.length]? = some r := by simp
    obtain ⟨c0, c1, f0, f1⟩ := own_pair h rfl hx
    have hr' := hr r (by simp)
    simp only [List.length_append, List.length_cons, List.length_nil] at *
    have hpf : pieceF (l0 ++ [r]) lo hi = if r.2 + 1 = lo then l0 ++ [(r.1, hi)] else l0 ++ [r] ++ [(lo, hi)] := by simp [pieceF]
    have HP := Lib.hid hpf
    clear hpf hx hr
    cases hq : (r.2 + 1 == lo)
    · go_enter Try.func29, Try.ntmps29
      go_wp2_with (at_builtin; go_must (refine wpList_app1 elem_rg rfl rfl rfl rfl (by simp) h (lo, hi) rfl er_len er_one (by simp; omega) (by omega) hB ?_); intro v1 w1 o1 g1)
      go_ret
      refine ⟨_, rfl, ?_, grow_below (Below.refl _ _) h g1 (Nat.le_refl _) hB⟩
      rw [HP.out, if_neg (by simpa using hq)]
      exact o1
    · go_enter Try.func29, Try.ntmps29
      go_wp2_with fail
      go_ret
      refine ⟨_, rfl, ?_, (Below.refl _ _).setCell hBg _⟩
      rw [HP.out, if_pos (by simpa using hq)]
      have := h.store (t := 1) (y := (r.1, hi)) (by simp) er_len (i := l0.length) (x := r) (by simp) (by omega) (u := .int .i32 hi) rfl
      simpa using this
end Go.Proofs.Ytocbpbeklbhjkaa.cls
