/- The memory of MailPlays: three boxes, an array of pointers, an array of lists. -/
import Derived.Test.YtaohnngadjhmjaaPlayBox
import Derived.Test.YtaohnngadjhmjaaOwnO
namespace Go.Proofs.Ytaohnngadjhmjaa.play
open Go.RowKit Go.Proofs.Ytaohnngadjhmjaa.sl Go.Proofs.Ytaohnngadjhmjaa.mail
structure Rw where
  v : Value
  r : Int
  c : Bool
def eP (b : Nat) : List Value := [.pointer (some ⟨b, 0, none⟩)]
def eW (s : Rw) : List Value := [s.v, .int .i64 s.r, .bool s.c]
theorem eP_len (b : Nat) : (eP b).length = 1 := rfl
theorem eW_len (s : Rw) : (eW s).length = 3 := rfl
theorem own_block {α : Type} {enc : α → List Value} {k : Nat} {E : TypeId} {B : Nat} {w w' : World} {v : Value} {l : List α} (h : Own enc k E B w v l) (hk : ∀ g, v.ownBlock = some g → w'.heap[g]? = w.heap[g]?) : Own enc k E B w' v l := by
  refine ⟨h.1, ?_⟩
  rcases h.2 with h2 | ⟨g, cap, cur, rfl, hB, hg, h3⟩
  · exact .inl h2
  · exact .inr ⟨g, cap, cur, rfl, hB, (hk g rfl).trans hg, h3⟩
structure Mem (N : Nat) (W w : World) (L : List BoxS) (S : List Rw) (Q : List (List Int)) : Prop where
  boxes : Boxes (N + 3) w L
  tys : ∀ (i : Nat) x, L[i]? = some x → x.T = 62
  ptrs : Own eP 1 49 (N + 1) w (.slice (some ⟨N + 1, 0, none⟩) 3 3) (L.map BoxS.b)
  rows : Own eW 3 52 (N + 2) w (.slice (some ⟨N + 2, 0, none⟩) 3 3) S
  own : ∀ (i : Nat) s l, S[i]? = some s → Q[i]? = some l → OwnO 3 (N + 3) w s.v l
  apart : ∀ (i j : Nat) s t, i ≠ j → S[i]? = some s → S[j]? = some t → ∀ g, s.v.ownBlock = some g → t.v.ownBlock ≠ some g
  below : Below N W w
  size : N + 3 ≤ w.heap.size
  len1 : L.length = 3
  len2 : S.length = 3
  len3 : Q.length = 3
variable {N : Nat} {W w w' : World} {L : List BoxS} {S : List Rw} {Q : List (List Int)}
theorem Mem.getQ (M : Mem N W w L S Q) {i : Nat} {s : Rw} (hs : S[i]? = some s) : ∃ l, Q[i]? = some l := by
  have := lt_of_some hs
  exact ⟨_, List.getElem?_eq_getElem (by rw [M.len3, ← M.len2]; exact this)⟩
theorem Mem.ptr (M : Mem N W w L S Q) {i : Nat} {x : BoxS} (hx : L[i]? = some x) : w.cell? ⟨N + 1, i, none⟩ = some (.pointer (some ⟨x.b, 0, none⟩)) := by
  have := (M.ptrs.cellAt (by simp [M.len1]) eP_len (i := i) (t := 0) (x := x.b) (u := .pointer (some ⟨x.b, 0, none⟩)) (by simp [hx]) (by omega) rfl).1
  simpa using this
theorem Mem.row (M : Mem N W w L S Q) {i : Nat} {s : Rw} (hs : S[i]? = some s) :
    (w.cell? ⟨N + 2, i * 3, none⟩ = some s.v ∧ w.frozen? ⟨N + 2, i * 3, none⟩ = false) ∧ (w.cell? ⟨N + 2, i * 3 + 1, none⟩ = some (.int .i64 s.r) ∧ w.frozen? ⟨N + 2, i * 3 + 1, none⟩ = false) ∧
      (w.cell? ⟨N + 2, i * 3 + 2, none⟩ = some (.bool s.c) ∧ w.frozen? ⟨N + 2, i * 3 + 2, none⟩ = false) := by
  have a := M.rows.cellAt (by simp [M.len2]) eW_len (i := i) (t := 0) (x := s) (u := s.v) hs (by omega) rfl
  have b := M.rows.cellAt (by simp [M.len2]) eW_len (i := i) (t := 1) (x := s) (u := .int .i64 s.r) hs (by omega) rfl
  have c := M.rows.cellAt (by simp [M.len2]) eW_len (i := i) (t := 2) (x := s) (u := .bool s.c) hs (by omega) rfl
  simp only [Nat.add_zero] at a
  exact ⟨a, b, c⟩
/-- A list's block is no block of a box. -/
theorem Mem.far (M : Mem N W w L S Q) {i j : Nat} {x : BoxS} {s : Rw} (hx : L[i]? = some x) (hs : S[j]? = some s) {g : Nat} (hg : s.v.ownBlock = some g) : g ≠ x.b ∧ g ≠ x.c ∧ N + 3 ≤ g ∧ g < w.heap.size := by
  obtain ⟨l, hl⟩ := M.getQ hs
  obtain ⟨h1, h2, cur, h3⟩ := (M.own j s l hs hl).lt g hg
  have a := M.boxes.at_ i x hx
  refine ⟨?_, ?_, h1, h2⟩
  · rintro rfl
    have := h3.symm.trans a.1
    rw [M.tys i x hx] at this
    simp at this
  · rintro rfl
    obtain ⟨s', r', h⟩ := a.2
    have := h3.symm.trans h
    simp at this
theorem Mem.off (M : Mem N W w L S Q) {i : Nat} {x y : BoxS} (hx : L[i]? = some x) (hB : Boxes (N + 3) w' (L.set i y)) (ho : Off x w w') (hb : y.b = x.b) (hT : y.T = x.T) : Mem N W w' (L.set i y) S Q := by
  have lo := M.boxes.lo i x hx
  obtain ⟨o1, o2, o3, o4, o5⟩ := ho
  refine ⟨hB, fun j z hz => ?_, ?_, own_block M.rows fun g hg => ?_, fun j s l hs hl => (M.own j s l hs hl).keep fun g hg => ?_, M.apart, M.below.trans ⟨o1, o2, o3, by omega, fun k hk => o5 k (by omega) (by omega)⟩, by rw [o4]; exact M.size, by simp [M.len1], M.len2, M.len3⟩
  · rcases getElem?_set_some hx hz with ⟨_, rfl⟩ | ⟨_, h⟩
    · rw [hT]; exact M.tys i x hx
    · exact M.tys j z h
  · have e : (L.set i y).map BoxS.b = L.map BoxS.b := by
      rw [List.map_set, hb]
      exact set_same (by simp [hx])
    rw [e]
    refine own_block M.ptrs fun g hg => ?_
    cases hg
    exact o5 _ (by simp; omega) (by simp; omega)
  · cases hg
    exact o5 _ (by simp; omega) (by simp; omega)
  · have f := M.far hx hs hg
    exact o5 g f.1 f.2.1
theorem Mem.grow (M : Mem N W w L S Q) (hb : Below w.heap.size w w') : Mem N W w' L S Q := by
  have sz := M.size
  refine ⟨M.boxes.below hb (Nat.le_refl _), M.tys, own_block M.ptrs fun g hg => ?_, own_block M.rows fun g hg => ?_, fun j s l hs hl => (M.own j s l hs hl).keep fun g hg => ?_, M.apart, M.below.trans (hb.mono (by omega)), Nat.le_trans sz hb.size, M.len1, M.len2, M.len3⟩
  · cases hg
    exact hb.block _ (by simp; omega)
  · cases hg
    exact hb.block _ (by simp; omega)
  · exact hb.block g ((M.own j s l hs hl).lt g hg).2.1
theorem setCell_other (w : World) (p : Addr) (u : Value) (k : Nat) (h : k ≠ p.block) : (w.setCell p u).heap[k]? = w.heap[k]? := Below.heap_setCell _ _ _ _ h
theorem setCell_size (w : World) (p : Addr) (u : Value) : (w.setCell p u).heap.size = w.heap.size := by simp [World.setCell]
/-- What a write into the array of lists keeps, the lists themselves aside. -/
theorem Mem.put (M : Mem N W w L S Q) {i t : Nat} {s s' : Rw} {u : Value} (hs : S[i]? = some s) (ht : t < 3) (he : (eW s).set t u = eW s') (hv : s'.v = s.v) : Mem N W (w.setCell ⟨N + 2, i * 3 + t, none⟩ u) L (S.set i s') Q := by
  have sz := M.size
  have o : ∀ k, k ≠ N + 2 → (w.setCell ⟨N + 2, i * 3 + t, none⟩ u).heap[k]? = w.heap[k]? := fun k hk => setCell_other _ _ _ _ hk
  have hr := M.rows.store (by simp [M.len2]) eW_len hs ht he
  refine ⟨M.boxes.keep fun k hk _ => o k (by omega), M.tys, own_block M.ptrs fun g hg => ?_, hr, fun j s1 l h1 hl => ?_, fun j k s1 s2 hjk h1 h2 g hg => ?_, M.below.trans ⟨rfl, rfl, rfl, by rw [setCell_size]; exact Nat.le_refl _, fun k hk => o k (by omega)⟩, by rw [setCell_size]; exact sz, M.len1, by simp [M.len2], M.len3⟩
  · cases hg
    exact o _ (by simp)
  · have key : ∃ s0, S[j]? = some s0 ∧ s1.v = s0.v := by
      rcases getElem?_set_some hs h1 with ⟨rfl, rfl⟩ | ⟨_, h⟩
      · exact ⟨s, hs, hv⟩
      · exact ⟨s1, h, rfl⟩
    obtain ⟨s0, h0, e0⟩ := key
    rw [e0]
    refine (M.own j s0 l h0 hl).keep fun g hg => o g ?_
    have := ((M.own j s0 l h0 hl).lt g hg).1
    omega
  · have key : ∀ (j : Nat) s1, (S.set i s')[j]? = some s1 → ∃ s0, S[j]? = some s0 ∧ s1.v = s0.v := fun j s1 h1 => by
      rcases getElem?_set_some hs h1 with ⟨rfl, rfl⟩ | ⟨_, h⟩
      · exact ⟨s, hs, hv⟩
      · exact ⟨s1, h, rfl⟩
    obtain ⟨t1, k1, e1⟩ := key j s1 h1
    obtain ⟨t2, k2, e2⟩ := key k s2 h2
    rw [e1] at hg
    rw [e2]
    exact M.apart j k t1 t2 hjk k1 k2 g hg
/-- A list turns: its slice was grown or cut, and stored. -/
theorem Mem.list (M : Mem N W w L S Q) {w1 : World} {i : Nat} {s : Rw} {v' : Value} {l' : List Int} (hs : S[i]? = some s) (hg : w.grownBy w1 s.v.ownBlock) (hf : Fresh w s.v v') (ho : OwnO 3 (N + 3) w1 v' l') :
    Mem N W (w1.setCell ⟨N + 2, i * 3, none⟩ v') L (S.set i { s with v := v' }) (Q.set i l') := by
  have sz := M.size
  have hi := lt_of_some hs
  have blk : ∀ k, k < w.heap.size → s.v.ownBlock ≠ some k → w1.heap[k]? = w.heap[k]? := fun k h1 h2 => hg.block k h1 fun e => h2 e.symm
  have lowS : ∀ g, s.v.ownBlock = some g → N + 3 ≤ g := fun g e => by
    obtain ⟨l, hl⟩ := M.getQ hs
    exact ((M.own i s l hs hl).lt g e).1
  have o : ∀ k, k ≠ N + 2 → (w1.setCell ⟨N + 2, i * 3, none⟩ v').heap[k]? = w1.heap[k]? := fun k hk => setCell_other _ _ _ _ hk
  have low : ∀ k, k < N + 3 → w1.heap[k]? = w.heap[k]? := fun k hk => blk k (by omega) fun e => by have := lowS k e; omega
  have hr : Own eW 3 52 (N + 2) w1 (.slice (some ⟨N + 2, 0, none⟩) 3 3) S := own_block M.rows fun g e => by cases e; exact low _ (by simp)
  have hr2 := hr.store (by simp [M.len2]) eW_len (i := i) (t := 0) (u := v') (y := { s with v := v' }) hs (by omega) rfl
  simp only [Nat.add_zero] at hr2
  have bx : Boxes (N + 3) w1 L := by
    refine ⟨fun j x hx => ?_, M.boxes.lo, M.boxes.self, M.boxes.apart⟩
    have a := M.boxes.at_ j x hx
    have hne : ∀ g, s.v.ownBlock = some g → g ≠ x.b ∧ g ≠ x.c := fun g e => ⟨(M.far hx hs e).1, (M.far hx hs e).2.1⟩
    refine ⟨(blk _ a.lt.1 fun e => (hne _ e).1 rfl).trans a.1, ?_⟩
    obtain ⟨s', r', h⟩ := a.2
    exact ⟨s', r', (blk _ a.lt.2 fun e => (hne _ e).2 rfl).trans h⟩
  have hsz := hg.size
  refine ⟨bx.keep fun k hk _ => o k (by omega), M.tys, own_block M.ptrs fun g e => ?_, hr2, fun j s1 l h1 hl => ?_, fun j k s1 s2 hjk h1 h2 g e1 e2 => ?_, M.below.trans ⟨hg.os, hg.tape, hg.output, by rw [setCell_size]; exact hsz, fun k hk => (o k (by omega)).trans (low k (by omega))⟩, by rw [setCell_size]; omega, M.len1, by simp [M.len2], by simp [M.len3]⟩
  · cases e
    exact (o _ (by simp)).trans (low _ (by simp))
  · rcases getElem?_set_some hs h1 with ⟨rfl, rfl⟩ | ⟨hne, h⟩
    · have : Q[j]? ≠ none := by
        obtain ⟨l, h⟩ := M.getQ hs
        rw [h]; simp
      have hjl : j < Q.length := by rw [M.len3, ← M.len2]; exact hi
      rw [List.getElem?_set_self hjl] at hl
      cases hl
      refine ho.keep fun g e => o g ?_
      have := (ho.lt g e).1
      omega
    · rw [List.getElem?_set_ne (Ne.symm hne)] at hl
      have own := M.own j s1 l h hl
      refine own.keep fun g e => (o g ?_).trans (blk g (own.lt g e).2.1 fun e' => M.apart i j s s1 (Ne.symm hne) hs h g e' e)
      have := (own.lt g e).1
      omega
  · have fr : ∀ (j : Nat) t, S[j]? = some t → j ≠ i → ∀ g, t.v.ownBlock = some g → v'.ownBlock ≠ some g := fun j t hj hne g e e' => by
      rcases hf with hf | hf | ⟨q, hf, hq⟩
      · exact M.apart i j s t (Ne.symm hne) hs hj g (hf ▸ e') e
      · rw [hf] at e'; cases e'
      · rw [hf] at e'
        cases e'
        obtain ⟨l, hl⟩ := M.getQ hj
        have := ((M.own j t l hj hl).lt _ e).2.1
        omega
    rcases getElem?_set_some hs h1 with ⟨rfl, rfl⟩ | ⟨hn1, h1'⟩ <;> rcases getElem?_set_some hs h2 with ⟨rfl, rfl⟩ | ⟨hn2, h2'⟩
    · exact hjk rfl
    · exact fr k s2 h2' hn2 g e2 e1
    · exact fr j s1 h1' hn1 g e1 e2
    · exact M.apart j k s1 s2 hjk h1' h2' g e1 e2
end Go.Proofs.Ytaohnngadjhmjaa.play
