/- Several boxes at once: what each call makes of them. -/
import Derived.Test.YtaohnngadjhmjaaBoxRest
namespace Go.Proofs.Ytaohnngadjhmjaa.mail
open Go.Conc Go.RowKit
structure BoxS where
  T : TypeId
  b : Nat
  c : Nat
  cap : Nat
  q : List Value
  cl : Bool
/-- A box as it lies. -/
def BoxS.At (x : BoxS) (w : World) : Prop :=
  w.heap[x.b]? = some (.cells #[.chan (some x.c), .bool x.cl] x.T) ∧ ∃ s r, w.heap[x.c]? = some (.chan x.cap x.q.toArray x.cl s r false)
def BoxS.blocks (x : BoxS) : List Nat := [x.b, x.c]
/-- The boxes of a list, all in blocks of their own, from block B on. -/
structure Boxes (B : Nat) (w : World) (L : List BoxS) : Prop where
  at_ : ∀ (i : Nat) x, L[i]? = some x → x.At w
  lo : ∀ (i : Nat) x, L[i]? = some x → B ≤ x.b ∧ B ≤ x.c
  self : ∀ (i : Nat) x, L[i]? = some x → x.b ≠ x.c
  apart : ∀ (i j : Nat) x y, i ≠ j → L[i]? = some x → L[j]? = some y → x.b ≠ y.b ∧ x.b ≠ y.c ∧ x.c ≠ y.b ∧ x.c ≠ y.c
variable {B : Nat} {w w' : World} {L : List BoxS}
theorem heap_lt {w : World} {k : Nat} {o : Obj} (h : w.heap[k]? = some o) : k < w.heap.size := by
  rcases Nat.lt_or_ge k w.heap.size with h' | h'
  · exact h'
  · rw [Array.getElem?_eq_none h'] at h; cases h
theorem BoxS.At.lt {x : BoxS} (h : x.At w) : x.b < w.heap.size ∧ x.c < w.heap.size :=
  ⟨heap_lt h.1, let ⟨_, _, h2⟩ := h.2; heap_lt h2⟩
theorem BoxS.At.cell0 {x : BoxS} (h : x.At w) : w.cell? ⟨x.b, 0, none⟩ = some (.chan (some x.c)) := by simp [World.cell?, h.1]
theorem BoxS.At.cell1 {x : BoxS} (h : x.At w) : w.cell? ⟨x.b, 1, none⟩ = some (.bool x.cl) := by simp [World.cell?, h.1]
theorem BoxS.At.free1 {x : BoxS} (h : x.At w) : w.frozen? ⟨x.b, 1, none⟩ = false := by simp [World.frozen?, h.1]
/-- What stands apart from the blocks that turned stays. -/
theorem Boxes.keep (H : Boxes B w L) (hk : ∀ k, B ≤ k → k < w.heap.size → w'.heap[k]? = w.heap[k]?) : Boxes B w' L := by
  refine ⟨fun i x hx => ?_, H.lo, H.self, H.apart⟩
  have a := H.at_ i x hx
  have l := a.lt
  have b := H.lo i x hx
  refine ⟨(hk _ b.1 l.1).trans a.1, ?_⟩
  obtain ⟨s, r, h⟩ := a.2
  exact ⟨s, r, (hk _ b.2 l.2).trans h⟩
theorem Boxes.below (H : Boxes B w L) {B' : Nat} (hb : Below B' w w') (hB : w.heap.size ≤ B') : Boxes B w' L :=
  H.keep fun k _ hk => hb.block k (by omega)
theorem getElem?_set_some {α : Type} {L : List α} {i j : Nat} {x y z : α} (hi : L[i]? = some x) (h : (L.set i y)[j]? = some z) : (j = i ∧ z = y) ∨ (j ≠ i ∧ L[j]? = some z) := by
  by_cases e : j = i
  · subst e
    have hl : j < L.length := by
      rcases Nat.lt_or_ge j L.length with h' | h'
      · exact h'
      · rw [List.getElem?_eq_none h'] at hi; cases hi
    rw [List.getElem?_set_self hl] at h
    exact .inl ⟨rfl, by cases h; rfl⟩
  · rw [List.getElem?_set_ne (Ne.symm e)] at h
    exact .inr ⟨e, h⟩
/-- One box turns, all else stays. -/
theorem Boxes.set (H : Boxes B w L) {i : Nat} {x y : BoxS} (hi : L[i]? = some x) (hb : y.b = x.b) (hc : y.c = x.c) (ha : y.At w')
    (hk : ∀ k, k < w.heap.size → k ≠ x.b → k ≠ x.c → w'.heap[k]? = w.heap[k]?) : Boxes B w' (L.set i y) := by
  have hl := H.lo i x hi
  have hs := H.self i x hi
  refine ⟨fun j z hz => ?_, fun j z hz => ?_, fun j z hz => ?_, fun j k z v hjk hz hv => ?_⟩
  · rcases getElem?_set_some hi hz with ⟨rfl, rfl⟩ | ⟨e, hz⟩
    · exact ha
    · have a := H.at_ j z hz
      have p := H.apart j i z x e hz hi
      have l := a.lt
      refine ⟨(hk _ l.1 p.1 p.2.1).trans a.1, ?_⟩
      obtain ⟨s, r, h⟩ := a.2
      exact ⟨s, r, (hk _ l.2 p.2.2.1 p.2.2.2).trans h⟩
  · rcases getElem?_set_some hi hz with ⟨rfl, rfl⟩ | ⟨e, hz⟩
    · rw [hb, hc]; exact hl
    · exact H.lo j z hz
  · rcases getElem?_set_some hi hz with ⟨rfl, rfl⟩ | ⟨e, hz⟩
    · rw [hb, hc]; exact hs
    · exact H.self j z hz
  · rcases getElem?_set_some hi hz with ⟨rfl, rfl⟩ | ⟨e, hz'⟩ <;> rcases getElem?_set_some hi hv with ⟨rfl, rfl⟩ | ⟨e', hv'⟩
    · exact absurd rfl hjk
    · rw [hb, hc]; exact H.apart _ _ _ _ hjk hi hv'
    · rw [hb, hc]; exact H.apart _ _ _ _ hjk hz' hi
    · exact H.apart _ _ _ _ hjk hz' hv'
theorem Boxes.snoc (H : Boxes B w L) {y : BoxS} (hB : B ≤ w.heap.size) (hb : w.heap.size ≤ y.b) (hc : w.heap.size ≤ y.c) (hs : y.b ≠ y.c) (ha : y.At w')
    (hk : ∀ k, k < w.heap.size → w'.heap[k]? = w.heap[k]?) : Boxes B w' (L ++ [y]) := by
  have H' : Boxes B w' L := H.keep fun k _ h => hk k h
  have get : ∀ (j : Nat) z, (L ++ [y])[j]? = some z → (j < L.length ∧ L[j]? = some z) ∨ (j = L.length ∧ z = y) := by
    intro j z h
    rcases Nat.lt_or_ge j L.length with h' | h'
    · exact .inl ⟨h', by rwa [List.getElem?_append_left h'] at h⟩
    · rw [List.getElem?_append_right h'] at h
      rcases hd : j - L.length with _ | n
      · rw [hd] at h; exact .inr ⟨by omega, by simpa using h.symm⟩
      · rw [hd] at h; simp at h
  have far : ∀ (j : Nat) z, L[j]? = some z → z.b ≠ y.b ∧ z.b ≠ y.c ∧ z.c ≠ y.b ∧ z.c ≠ y.c := by
    intro j z hz
    have l := (H.at_ j z hz).lt
    exact ⟨by omega, by omega, by omega, by omega⟩
  refine ⟨fun j z hz => ?_, fun j z hz => ?_, fun j z hz => ?_, fun j k z v hjk hz hv => ?_⟩
  · rcases get j z hz with ⟨_, h⟩ | ⟨_, rfl⟩
    · exact H'.at_ j z h
    · exact ha
  · rcases get j z hz with ⟨_, h⟩ | ⟨_, rfl⟩
    · exact H.lo j z h
    · exact ⟨by omega, by omega⟩
  · rcases get j z hz with ⟨_, h⟩ | ⟨_, rfl⟩
    · exact H.self j z h
    · exact hs
  · rcases get j z hz with ⟨_, h⟩ | ⟨ej, rfl⟩ <;> rcases get k v hv with ⟨_, h'⟩ | ⟨ek, rfl⟩
    · exact H.apart j k z v hjk h h'
    · exact far j z h
    · have f := far k v h'
      exact ⟨Ne.symm f.1, Ne.symm f.2.2.1, Ne.symm f.2.1, Ne.symm f.2.2.2⟩
    · omega
theorem Boxes.nil (B : Nat) (w : World) : Boxes B w [] := ⟨by simp, by simp, by simp, by simp⟩
theorem Below.setChan' {B : Nat} {w : World} {c : Nat} (hc : B ≤ c) (cap : Nat) (buf : Array Value) (cl : Bool) (s r : Nat) : Below B w (w.setChan c cap buf cl s r false) :=
  below_setChan (Below.refl _ _) hc _ _ _ _ _ _
theorem setChan_other (w : World) (c k cap : Nat) (buf : Array Value) (cl : Bool) (s r : Nat) (h : k ≠ c) : (w.setChan c cap buf cl s r false).heap[k]? = w.heap[k]? := by
  simp [World.setChan, Array.getElem?_setIfInBounds_ne (Ne.symm h)]
/-- The queue of one box turns. -/
theorem Boxes.queue (H : Boxes B w L) {i : Nat} {x : BoxS} (hi : L[i]? = some x) (q : List Value) (s r : Nat) {cl : Bool} (hcl : x.cl = cl) :
    Boxes B (w.setChan x.c x.cap q.toArray cl s r false) (L.set i { x with q }) ∧ Below B w (w.setChan x.c x.cap q.toArray cl s r false) := by
  subst hcl
  have a := H.at_ i x hi
  have hl := H.lo i x hi
  refine ⟨H.set hi rfl rfl ⟨?_, s, r, heap_setChan _ _ _ _ _ _ _ _ a.lt.2⟩ fun k _ _ h => setChan_other _ _ _ _ _ _ _ _ h, Below.setChan' hl.2 _ _ _ _ _⟩
  exact (setChan_other _ _ _ _ _ _ _ _ (H.self i x hi)).trans a.1
/-- The queue of one box turns, by 'Upd'. -/
theorem Boxes.upd (H : Boxes B w L) {i : Nat} {x : BoxS} (hi : L[i]? = some x) (q : List Value) (s r : Nat) {cl : Bool} (hcl : x.cl = cl) (hU : Upd w w' x.c (.chan x.cap q.toArray cl s r false)) (hB : B ≤ w.heap.size) :
    Boxes B w' (L.set i { x with q }) ∧ Below B w w' := by
  subst hcl
  have a := H.at_ i x hi
  have hl := H.lo i x hi
  refine ⟨H.set hi rfl rfl ⟨(hU.block _ a.lt.1 (H.self i x hi)).trans a.1, s, r, hU.at_c⟩ fun k h _ h' => hU.block k h h', hU.os, hU.tape, hU.output, hU.size, fun k hk => hU.block k (by omega) (by omega)⟩
theorem set_same {α : Type} {L : List α} {i : Nat} {x : α} (hi : L[i]? = some x) : L.set i x = L := by
  have hlt : i < L.length := by
    rcases Nat.lt_or_ge i L.length with h' | h'
    · exact h'
    · rw [List.getElem?_eq_none h'] at hi; cases hi
  rw [List.getElem?_eq_getElem hlt] at hi
  have : x = L[i] := by simpa using hi.symm
  subst this
  simp
end Go.Proofs.Ytaohnngadjhmjaa.mail
