/- kid and text, walked. -/
import Derived.Test.YtooockbfagkknaaGreatDoorItoa
import Derived.Test.YtooockbfagkknaaGreatDoorRight3
import Derived.Test.YtooockbfagkknaaGreatDoorBck
namespace Go.Proofs.YtooockbfagkknaaGreatDoor.syn
open Go.RowKit Go.Proofs.YtooockbfagkknaaGreatDoor.sl Go.Proofs.YtooockbfagkknaaGreatDoor.cls
/-! ### How long a text is -/
theorem classed_len (l : List Rg) (h : l.length ≤ 2000000) : (classedR l).length ≤ 10000010 := by
  unfold classedR
  have h1 := ranges_len4 l
  have h2 := ranges_len4 (notF [])
  have h3 : (notF []).length ≤ 2 := by rw [m4_is]; decide
  split
  · simp
  · split
    · simp; omega
    · split
      · have := shown_len (lo0 l); omega
      · simp; omega
theorem it_len (n : Int) : (itR n).length ≤ 3 := by unfold itR dgs; split <;> split <;> simp
theorem sizes_len (x : Nd) : (sizesR x).length ≤ 12 := by
  have h1 := it_len x.mn
  have h2 := it_len x.mx
  unfold sizesR
  have h3 : ∀ {a b : List Int}, a.length ≤ 11 → b.length ≤ 1 → (a ++ b).length ≤ 12 := fun ha hb => by rw [List.length_append]; omega
  refine h3 ?_ ?_
  · repeat' split
    all_goals (simp; try omega)
  · split <;> simp
theorem wrap_len (b : Bool) (t : List Int) : (wrapR b t).length ≤ t.length + 4 := by unfold wrapR; split <;> simp
theorem kids_text_len (L : List Nd) (n : Nat) (over : Int) (sep : List Int) (hs : sep.length ≤ 1) (H : ∀ a b, rWalk L n a = some b → (textR L n a).1.length + 10 ≤ 20000000 * (b - a)) : ∀ (k a b : Nat), a ≤ L.length → rKids (rWalk L n) k a = some b →
    (kidsR (kidR L (textR L n) over) sep k a).1.length ≤ 20000000 * (b - a)
  | 0, a, b, ha, h => by simp [kidsR]
  | k + 1, a, b, ha, h => by
    rw [rKids] at h
    split at h
    · cases h
    · rename_i c hc
      have hb := rWalk_bd L n a c hc
      have hb2 := rKids_bd L (rWalk_bd L n) _ _ _ hb.2 h
      have h1 : (kidR L (textR L n) over a).2 = c := text_end L n a c hc
      have h2 := H a c hc
      have h3 : (kidR L (textR L n) over a).1.length ≤ (textR L n a).1.length + 4 := wrap_len _ _
      have h4 := kids_text_len L n over sep hs H k c b hb.2 h
      rw [kidsR, h1, List.length_append, List.length_append]
      omega
theorem text_len (L : List Nd) (hr : ∀ x ∈ L, x.r.length ≤ 2000000) : ∀ (n a b : Nat), rWalk L n a = some b → (textR L n a).1.length + 10 ≤ 20000000 * (b - a)
  | 0, a, b, h => nomatch h
  | n + 1, a, b, h => by
    have hbd := rWalk_bd L (n + 1) a b h
    have ih := text_len L hr n
    rw [rWalk] at h
    split at h
    · cases h
    rename_i hl
    split at h
    · cases h
    rename_i k hk
    have hs := shape_sh hk
    have hx := hr (L.getD a (nd 0)) (by rw [List.getD_eq_getElem?_getD, List.getElem?_eq_getElem (by omega)]; exact List.getElem_mem _)
    rw [textR]
    simp only
    generalize L.getD a (nd 0) = x at hs hx ⊢
    have one : ∀ over c, rWalk L n (a + 1) = some c → (kidR L (textR L n) over (a + 1)).1.length + 6 ≤ 20000000 * (c - (a + 1)) := fun over c hc => by
      have h2 := ih (a + 1) c hc
      have h3 : (kidR L (textR L n) over (a + 1)).1.length ≤ (textR L n (a + 1)).1.length + 4 := wrap_len _ _
      omega
    cases hs with
    | leaf ho e hk0 =>
      rw [if_neg (by omega)]
      repeat' split
      all_goals (first | (simp; omega) | omega)
    | cls e hg hk0 =>
      rw [if_pos (by rw [e]; rfl)]
      have := classed_len x.r hx
      simp only
      omega
    | rep e h1 h2 h3 hk0 =>
      subst hk0
      have ho : x.op = 5 := by rw [e]; rfl
      have h' : rKids (rWalk L n) 1 (a + 1) = some b := h
      rw [rKids] at h'
      split at h'
      · cases h'
      rename_i c hc
      cases (show some c = some b from h')
      rw [if_neg (by omega), if_neg (by omega), if_neg (by omega), if_pos ho]
      have := one 5 b hc
      have := sizes_len x
      simp only [List.length_append]
      omega
    | grp e h1 h2 hk0 =>
      subst hk0
      have ho : x.op = 6 := by rw [e]; rfl
      have h' : rKids (rWalk L n) 1 (a + 1) = some b := h
      rw [rKids] at h'
      split at h'
      · cases h'
      rename_i c hc
      cases (show some c = some b from h')
      rw [if_neg (by omega), if_neg (by omega), if_neg (by omega), if_neg (by omega), if_pos ho]
      have := one 6 b hc
      simp only [List.length_append, List.length_cons, List.length_nil]
      omega
    | many hop e h2 hk0 =>
      subst hk0
      obtain ⟨m, hm⟩ : ∃ m : Nat, x.kids = (m : Int) + 1 := ⟨(x.kids - 1).toNat, by omega⟩
      rw [show x.kids.toNat = m + 1 by omega] at h
      rw [rKids] at h
      split at h
      · cases h
      rename_i c hc
      have hb := rWalk_bd L n (a + 1) c hc
      have hb2 := rKids_bd L (rWalk_bd L n) _ _ _ hb.2 h
      have hk2 : (kidR L (textR L n) x.op (a + 1)).2 = c := text_end L n (a + 1) c hc
      rw [if_neg (by omega), if_neg (by omega), if_neg (by omega), if_neg (by omega), if_neg (by omega), if_pos hop, hk2, show (x.kids - 1).toNat = m by omega]
      have := one x.op c hc
      have := kids_text_len L n x.op (if x.op = 4 then [124] else []) (by split <;> simp) ih m c b hb.2 h
      simp only [List.length_append]
      omega
/-! ### The walks -/
abbrev wkO (la : Option Addr) (n lc a g : Nat) : Obj := .cells #[.slice la n lc, .int .i64 a, .int .i64 g] 64
theorem kp_below {W w w' : World} {P : Nat} (h : Below W.heap.size W w) (k : Kp P w w') (hP : W.heap.size ≤ P) : Below W.heap.size W w' := h.trans (k.toBelow hP h.size)
/-- What a text's walk leaves. -/
def TxPost (P : Nat) (la : Option Addr) (lc n : Nat) (w : World) (t : List Int) (b g : Nat) (e : Ending) (w' : World) : Prop := e = .returned (.string (bsR t)) ∧ w'.heap[P]? = some (wkO la n lc b g) ∧ Kp P w w'
def TextC (W : World) (P : Nat) (la : Option Addr) (lc : Nat) (ls : List NdV) (n : Nat) : Prop := ∀ (a b g : Nat) (w : World), rWalk (ls.map NdV.x) n a = some b → w.heap[P]? = some (wkO la ls.length lc a g) → Below W.heap.size W w →
  Calls Tryz.prog 27 #[.pointer (some ⟨P, 0, none⟩)] w (TxPost P la lc ls.length w (textR (ls.map NdV.x) n a).1 b g)
def KidC (W : World) (P : Nat) (la : Option Addr) (lc : Nat) (ls : List NdV) (n : Nat) : Prop := ∀ (over : Int) (a b g : Nat) (w : World), rWalk (ls.map NdV.x) n a = some b → w.heap[P]? = some (wkO la ls.length lc a g) → Below W.heap.size W w →
  Calls Tryz.prog 40 #[.pointer (some ⟨P, 0, none⟩), .int .i64 over] w (TxPost P la lc ls.length w (kidR (ls.map NdV.x) (textR (ls.map NdV.x) n) over a).1 b g)
section
variable {W : World} {P : Nat} {la : Option Addr} {lc : Nat} {ls : List NdV}
set_option maxHeartbeats 4000000 in
set_option maxRecDepth 100000 in
theorem kidC (N : Nrd W la lc ls) (_hP : W.heap.size ≤ P) (hlen : ls.length ≤ 480) {n : Nat} (T : TextC W P la lc ls n) : KidC W P la lc ls n := by
  intro over a b g w hw ob hb
  have hbd := rWalk_bd _ _ _ _ hw
  rw [List.length_map] at hbd
  have hlt : a < ls.length := by omega
  obtain ⟨y, hy⟩ : ∃ y, ls[a]? = some y := ⟨_, List.getElem?_eq_getElem hlt⟩
  have hgd : (ls.map NdV.x).getD a (nd 0) = y.x := by simp [List.getD_eq_getElem?_getD, hy]
  have htl := text_len (ls.map NdV.x) (fun x hx => by obtain ⟨z, hz, rfl⟩ := List.mem_map.1 hx; exact (N.each z hz).2.2.1) n a b hw
  have hts := bsR_size (textR (ls.map NdV.x) n a).1
  have hz : (bsR (textR (ls.map NdV.x) n a).1).size ≤ 40000000000 := by
    have : b - a ≤ 480 := by omega
    have : 20000000 * (b - a) ≤ 20000000 * 480 := Nat.mul_le_mul_left _ this
    omega
  have TC := Lib.hid (fun w' (q : w'.heap[P]? = some (wkO la ls.length lc a g)) (r : Below W.heap.size W w') => T a b g w' hw q r)
  suffices key : ∀ t, kidR (ls.map NdV.x) (textR (ls.map NdV.x) n) over a = t → Calls Tryz.prog 40 #[.pointer (some ⟨P, 0, none⟩), .int .i64 over] w (TxPost P la lc ls.length w t.1 b g) from key _ rfl
  intro t ht
  unfold kidR at ht
  rw [hgd] at ht
  obtain ⟨bb, off, rfl, hbl, hc⟩ := (N.kept hb).rd.cells eN_len hy
  have q0 := hc 0 (.int .i64 y.x.op) (by omega) rfl
  simp only [Nat.add_zero] at q0
  have c0 := cell_of_obj (o := 0) (u := .slice (some ⟨bb, off, none⟩) ls.length lc) ob rfl
  have c1 := cell_of_obj (o := 1) (u := .int .i64 a) ob rfl
  have i2 : (a : Int) < (ls.length : Int) := by omega
  have HT := Lib.hid ht
  have OB := Lib.hid ob
  have B := Lib.hid hb
  clear ht ob hb hc hy hgd htl hts hw T
  generalize (textR (ls.map NdV.x) n a).1 = tx at hz TC HT
  go_enter Tryz.func40, Tryz.ntmps40
  go_wp2_with fail
  go_quiet (fail)
  have OB2 : Hid ((w.drewN nq).heap[P]? = some (wkO (some ⟨bb, off, none⟩) ls.length lc a g)) := Lib.hid OB.out
  have B2 := Lib.hid (B.out.trans (drewN_below (Below.refl W.heap.size w) nq))
  have K2 := Lib.hid (Kp.below (P := P) (drewN_below (Below.refl w.heap.size w) nq))
  clear OB B c0 c1 q0
  generalize w.drewN nq = w2 at OB2 B2 K2 ⊢
  go_wp2_with fail
  refine (TC.out w2 OB2.out B2.out).mono ?_
  rintro e w3 ⟨rfl, o3, k3⟩
  have O3 := Lib.hid o3
  have K3 := Lib.hid (K2.out.trans k3)
  clear o3 k3 TC OB2 B2 K2
  go_wp2_with fail
  refine (boundC over y.x.op w3).mono ?_
  rintro e w4 ⟨rfl, rfl⟩
  generalize boundB over y.x.op = bd at HT ⊢
  generalize hs : bsR tx = s at hz ⊢
  have HS := Lib.hid hs
  clear hs
  cases bd
  · go_wp2_with fail
    go_ret
    refine ⟨?_, O3.out, K3.out⟩
    rw [← HT.out]
    show Ending.returned (Value.string s) = _
    rw [← HS.out]
    rfl
  · go_wp2_with fail
    go_ret
    refine ⟨?_, O3.out, K3.out⟩
    rw [← HT.out]
    show Ending.returned (Value.string (⟨#[40, 63, 58]⟩ ++ s ++ ⟨#[41]⟩)) = Ending.returned (Value.string (bsR ([40, 63, 58] ++ tx ++ [41])))
    rw [bsR_app, bsR_app, HS.out]
    rfl
end
end Go.Proofs.YtooockbfagkknaaGreatDoor.syn
