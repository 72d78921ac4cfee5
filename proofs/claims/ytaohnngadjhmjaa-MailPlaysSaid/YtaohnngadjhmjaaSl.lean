/- Slices of elements of k cells that hold no addresses: how they lie, read alone or owned. -/
import Derived.Test.YtaohnngadjhmjaaChecked
import Derived.WalkKit
import Derived.Lib.Hide
import Derived.Deep.LoopGhost
import Derived.Deep.DeepCutAuto
import Derived.Laws.AppendOwnNone
import Derived.BigQuiet
import Derived.Deep.QuietTactic
namespace Go.Proofs.Ytaohnngadjhmjaa.sl
open Go.RowKit
variable {α : Type} {enc : α → List Value} {k : Nat}
theorem heap_lt {w : World} {k : Nat} {o : Obj} (h : w.heap[k]? = some o) : k < w.heap.size := by
  rcases Nat.lt_or_ge k w.heap.size with h' | h'
  · exact h'
  · rw [Array.getElem?_eq_none h'] at h; cases h
theorem cell_lt {w : World} {a : Addr} {v : Value} (h : w.cell? a = some v) : a.block < w.heap.size := by
  rcases Nat.lt_or_ge a.block w.heap.size with h' | h'
  · exact h'
  · simp [World.cell?, Array.getElem?_eq_none h'] at h
/-- The cells of a list, one element behind the other. -/
def flat (enc : α → List Value) (l : List α) : List Value := l.flatMap enc
theorem flat_len (hk : ∀ x, (enc x).length = k) (l : List α) : (flat enc l).length = l.length * k := by
  induction l with
  | nil => simp [flat]
  | cons x t ih =>
    have : flat enc (x :: t) = enc x ++ flat enc t := rfl
    rw [this, List.length_append, hk, ih, List.length_cons, Nat.succ_mul]; omega
theorem flat_append (l m : List α) : flat enc (l ++ m) = flat enc l ++ flat enc m := by simp [flat]
theorem flat_get (hk : ∀ x, (enc x).length = k) (l : List α) (i t : Nat) (x : α) (hx : l[i]? = some x) (ht : t < k) : (flat enc l)[i * k + t]? = (enc x)[t]? := by
  induction l generalizing i with
  | nil => simp at hx
  | cons y m ih =>
    have e : flat enc (y :: m) = enc y ++ flat enc m := rfl
    rcases i with _ | i
    · simp only [List.getElem?_cons_zero, Option.some.injEq] at hx
      subst hx
      rw [e, List.getElem?_append_left (by rw [hk]; omega)]
      simp
    · simp only [List.getElem?_cons_succ] at hx
      rw [e, List.getElem?_append_right (by rw [hk, Nat.succ_mul]; omega), hk, ← ih i hx]
      congr 1
      rw [Nat.succ_mul]; omega
/-- A slice's value that reads as a list. -/
structure Rd (enc : α → List Value) (w : World) (a : Option Addr) (l : List α) (cap : Nat) : Prop where
  none_ : a = none → l = [] ∧ cap = 0
  le : l.length ≤ cap
  max : cap ≤ maxLen
  at_ : ∀ ad, a = some ad → ad.spot = none ∧ ad.block < w.heap.size ∧ ∀ j u, (flat enc l)[j]? = some u → w.cell? ⟨ad.block, ad.off + j, none⟩ = some u
theorem Rd.nil (enc : α → List Value) (w : World) : Rd enc w none [] 0 := ⟨fun _ => ⟨rfl, rfl⟩, Nat.le_refl _, by simp [maxLen], fun _ h => by cases h⟩
theorem Rd.cells {w : World} {a : Option Addr} {l : List α} {cap : Nat} (h : Rd enc w a l cap) (hk : ∀ x, (enc x).length = k) {i : Nat} {x : α} (hx : l[i]? = some x) :
    ∃ b off, a = some ⟨b, off, none⟩ ∧ b < w.heap.size ∧ ∀ t u, t < k → (enc x)[t]? = some u → w.cell? ⟨b, off + (i * k + t), none⟩ = some u := by
  obtain ⟨h1, h2, h3, h4⟩ := h
  rcases a with _ | ⟨b, off, sp⟩
  · obtain ⟨rfl, _⟩ := h1 rfl
    simp at hx
  · obtain ⟨hs, hb, hc⟩ := h4 _ rfl
    obtain rfl : sp = none := hs
    exact ⟨b, off, rfl, hb, fun t u ht hu => hc _ _ (by rw [flat_get hk l i t x hx ht]; exact hu)⟩
theorem Rd.drewN' {w : World} {a : Option Addr} {l : List α} {cap : Nat} (h : Rd enc w a l cap) (n : Nat) : Rd enc (w.drewN n) a l cap := ⟨h.none_, h.le, h.max, h.at_⟩
theorem Rd.below {w w' : World} {a : Option Addr} {l : List α} {cap : Nat} (h : Rd enc w a l cap) {B : Nat} (hb : Below B w w') (hB : ∀ ad, a = some ad → ad.block < B) : Rd enc w' a l cap :=
  ⟨h.none_, h.le, h.max, fun ad e => by
    obtain ⟨h1, h2, h3⟩ := h.at_ ad e
    exact ⟨h1, Nat.lt_of_lt_of_le h2 hb.size, fun j u hu => (hb.cell (p := ⟨ad.block, ad.off + j, none⟩) (hB ad e)).trans (h3 j u hu)⟩⟩
theorem Rd.kept {w w' : World} {a : Option Addr} {l : List α} {cap : Nat} (h : Rd enc w a l cap) (hb : Below w.heap.size w w') : Rd enc w' a l cap :=
  h.below hb fun ad e => (h.at_ ad e).2.1
/-- A slice's value in new memory, owned. -/
def Own (enc : α → List Value) (k : Nat) (E : TypeId) (B : Nat) (w : World) (v : Value) (l : List α) : Prop := w.ownsRow B E k v l.length (flat enc l)
theorem Own.rd {w : World} {E : TypeId} {B : Nat} {v : Value} {l : List α} (h : Own enc k E B w v l) : ∃ a cap, v = .slice a l.length cap ∧ Rd enc w a l cap ∧ ∀ ad, a = some ad → B ≤ ad.block := by
  rcases h.2 with ⟨rfl, hn⟩ | ⟨g, cap, cur, rfl, hB, hg, hn, hm, hs, ht⟩
  · have : l = [] := List.eq_nil_of_length_eq_zero hn
    subst this
    exact ⟨none, 0, rfl, Rd.nil _ _, fun _ h => nomatch h⟩
  · refine ⟨some ⟨g, 0, none⟩, cap, rfl, ⟨fun h => (nomatch h), hn, hm, fun ad e => ?_⟩, fun ad e => (by cases e; exact hB)⟩
    cases e
    refine ⟨rfl, heap_lt hg, fun j u hu => ?_⟩
    simp only [World.cell?, hg, Nat.zero_add]
    rw [← ht, List.getElem?_take] at hu
    split at hu
    · simpa using hu
    · cases hu
theorem getD_eq {l : List α} {i : Nat} (h : i < l.length) (d : α) : l[i]? = some (l.getD i d) := by
  rw [List.getD_eq_getElem?_getD, List.getElem?_eq_getElem h]; rfl
structure ElemTy (P : Program) (T E : TypeId) (k bytes : Nat) : Prop where
  und : P.underlying T = some (.slice E)
  ex : ∃ i z, P.info? E = some i ∧ i.zero = some z ∧ i.size = k ∧ i.bytes = bytes ∧ z.cells.size = k
  pos : 0 < k
theorem ElemTy.mk' {P : Program} {T E : TypeId} {k bytes : Nat} {z : Value} (h1 : P.underlying T = some (.slice E)) (h2 : (P.info? E).map (fun i => (i.zero, i.size, i.bytes)) = some (some z, k, bytes)) (h3 : z.cells.size = k) (h4 : 0 < k) : ElemTy P T E k bytes := by
  obtain ⟨i, hi, hz, hs, hb⟩ := info_parts h2
  exact ⟨h1, ⟨i, z, hi, hz, hs, hb, h3⟩, h4⟩
theorem Own.nil (enc : α → List Value) (k : Nat) (E : TypeId) (B : Nat) (w : World) : Own enc k E B w (.slice none 0 0) [] := World.ownsRow_nil _ _ _ _
theorem Own.alloc {w : World} {E : TypeId} {B : Nat} {v : Value} {l : List α} (h : Own enc k E B w v l) (o : Obj) : Own enc k E B (w.alloc o) v l := World.ownsRow.alloc h o
theorem Own.drewN {w : World} {E : TypeId} {B : Nat} {v : Value} {l : List α} (h : Own enc k E B w v l) (n : Nat) : Own enc k E B (w.drewN n) v l := h
theorem Own.below {w w' : World} {E : TypeId} {B : Nat} {v : Value} {l : List α} (h : Own enc k E B w v l) {B' : Nat} (hb : Below B' w w') (hB : w.heap.size ≤ B') : Own enc k E B w' v l := by
  refine ⟨h.1, ?_⟩
  rcases h.2 with h2 | ⟨g, cap, cur, h1, h2, h3, h4⟩
  · exact .inl h2
  · exact .inr ⟨g, cap, cur, h1, h2, (hb.block g (Nat.lt_of_lt_of_le (heap_lt h3) hB)).trans h3, h4⟩
theorem Own.lt {w : World} {E : TypeId} {B : Nat} {v : Value} {l : List α} (h : Own enc k E B w v l) : ∀ k, v.ownBlock = some k → B ≤ k ∧ k < w.heap.size := World.ownsRow.lt h
theorem Own.mono {w : World} {E : TypeId} {B B' : Nat} {v : Value} {l : List α} (h : Own enc k E B w v l) (hB : B' ≤ B) : Own enc k E B' w v l := by
  refine ⟨h.1, ?_⟩
  rcases h.2 with h2 | ⟨g, cap, cur, h1, h2, h3⟩
  · exact .inl h2
  · exact .inr ⟨g, cap, cur, h1, Nat.le_trans hB h2, h3⟩
theorem Below.grow {w0 w w' : World} {E : TypeId} {B B0 : Nat} {v : Value} {l : List α} (hb : Below B0 w0 w) (h : Own enc k E B w v l) (hg : w.grownBy w' v.ownBlock) (hB : B0 ≤ B) (hs : B0 ≤ w.heap.size) : Below B0 w0 w' :=
  hb.grown hg hs fun k hk => Nat.le_trans hB (h.lt k hk).1
theorem Rd.built {w : World} {E : TypeId} {cs : Array Value} (l : List α) (n : Nat) (hn : l.length = n) (hc : cs.toList = flat enc l) (hm : n ≤ 4096) : Rd enc (w.alloc (.cells cs E)) (some ⟨w.heap.size, 0, none⟩) l n :=
  ⟨fun h => (nomatch h), by omega, by unfold maxLen; omega, fun ad e => by
    cases e
    refine ⟨rfl, by simp, fun j u hu => ?_⟩
    rw [← hc] at hu
    simp
    simpa using hu⟩
theorem wpList_app {P : Program} {w : World} {ops : Array Oper} {rest : List Oper} {o : Oper} {a : Act} {Q : Exit → Act → World → Prop} {T E : TypeId} {bytes B : Nat} {s x : Operand} {v : Value} {ao : Option Addr} {m c : Nat} {l l2 : List α}
    (ET : ElemTy P T E k bytes) (hgd : o.guard = none) (ho : o.op = .call { callee := .builtin .append, args := #[s, x], argTypes := #[T, T] })
    (hs : a.eval s = v) (hx : a.eval x = .slice ao m c) (hown : Own enc k E B w v l) (hsrc : Rd enc w ao l2 c) (hm : m = l2.length) (hk : ∀ x, (enc x).length = k) (h1 : ∀ x, ∀ u ∈ enc x, u.oneCell' = true)
    (hmax : l.length + l2.length ≤ 1000000000) (hby : bytes ≤ 65536) (hB : B ≤ w.heap.size)
    (h : ∀ v' w', Own enc k E B w' v' (l ++ l2) → w.grownBy w' v.ownBlock → wpList P ops Q rest (a.put o.dst v') w') : wpList P ops Q (o :: rest) a w := by
  obtain ⟨hu, ⟨i, z, hi, hz, hsz, hbt, hzc⟩, hp⟩ := ET
  rcases ao with _ | ⟨b, off, sp⟩
  · obtain ⟨rfl, rfl⟩ := hsrc.none_ rfl
    subst hm
    refine wpList_append_own_none hgd s x T ho B E i k hu hi v l.length _ hs hown hx ?_
    exact h _ _ (by simpa using hown) (World.grownBy.refl _ _)
  · obtain ⟨hsp, hb, hc⟩ := hsrc.at_ _ rfl
    obtain rfl : sp = none := hsp
    have hmul : (l.length + l2.length) * bytes ≤ 1000000000 * 65536 := Nat.mul_le_mul hmax hby
    refine wpList_append_own w hgd s x T ho B E i z k bytes hu hi hz hsz hbt hzc hp v l.length _ hs hown ⟨b, off, none⟩ m c (flat enc l2) hx (by rw [flat_len hk, hm]) (fun j u hj => ?_) (fun u hu => ?_) (by unfold maxLen; omega) (by subst hm; omega) hB ?_
    · have := hc j u hj
      rw [Addr.add_lit]
      exact this
    · obtain ⟨y, _, hy⟩ := List.mem_flatMap.1 hu
      exact h1 y u hy
    · intro v' w' h2 h3 _
      refine h v' w' ?_ h3
      unfold Own
      rw [flat_append, List.length_append, ← hm]
      exact h2
theorem wpList_app1 {P : Program} {w : World} {ops : Array Oper} {rest : List Oper} {o : Oper} {a : Act} {Q : Exit → Act → World → Prop} {T E E' : TypeId} {bytes B : Nat} {s x : Operand} {v : Value} {cs : Array Value} {l : List α} {n : Nat}
    (ET : ElemTy P T E k bytes) (hgd : o.guard = none) (ho : o.op = .call { callee := .builtin .append, args := #[s, x], argTypes := #[T, T] })
    (hs : a.eval s = v) (hx : a.eval x = .slice (some ⟨n, 0, none⟩) 1 1) (hn : n = w.heap.size) (hown : Own enc k E B w v l) (y : α) (hy : cs.toList = enc y) (hk : ∀ x, (enc x).length = k) (h1 : ∀ x, ∀ u ∈ enc x, u.oneCell' = true)
    (hmax : l.length < 1000000000) (hby : bytes ≤ 65536) (hB : B ≤ w.heap.size)
    (h : ∀ v' w', Own enc k E B w' v' (l ++ [y]) → (w.alloc (.cells cs E')).grownBy w' v.ownBlock → wpList P ops Q rest (a.put o.dst v') w') : wpList P ops Q (o :: rest) a (w.alloc (.cells cs E')) := by
  subst hn
  exact wpList_app ET hgd ho hs hx (hown.alloc _) (Rd.built [y] 1 rfl (by rw [hy]; simp [flat]) (by omega)) rfl hk h1 (by simp; omega) hby (by simp; omega) h
/-- A block of the call's own that the append may have turned: all that lies elsewhere stays. -/
theorem grow_below {w0 w w' : World} {E E' : TypeId} {B B0 : Nat} {v : Value} {l : List α} {cs : Array Value} (hb : Below B0 w0 w) (h : Own enc k E B w v l) (hg : (w.alloc (.cells cs E')).grownBy w' v.ownBlock) (hB : B0 ≤ B) (hs : B0 ≤ w.heap.size) : Below B0 w0 w' :=
  Below.grow (hb.alloc hs _) (h.alloc _) hg hB (by simp; omega)
theorem lt_of_some {β : Type} {l : List β} {i : Nat} {x : β} (h : l[i]? = some x) : i < l.length := by
  rcases Nat.lt_or_ge i l.length with h' | h'
  · exact h'
  · rw [List.getElem?_eq_none h'] at h; cases h
theorem flat_set (hk : ∀ x, (enc x).length = k) (l : List α) (i t : Nat) (x y : α) (u : Value) (hx : l[i]? = some x) (ht : t < k) (he : (enc x).set t u = enc y) : (flat enc l).set (i * k + t) u = flat enc (l.set i y) := by
  induction l generalizing i with
  | nil => simp at hx
  | cons z m ih =>
    have e : ∀ z, flat enc (z :: m) = enc z ++ flat enc m := fun _ => rfl
    rcases i with _ | i
    · simp only [List.getElem?_cons_zero, Option.some.injEq] at hx
      subst hx
      rw [List.set_cons_zero, e, e, List.set_append_left _ _ (by rw [hk]; omega), ← he]
      simp
    · simp only [List.getElem?_cons_succ] at hx
      rw [List.set_cons_succ, e, List.set_append_right _ _ (by rw [hk, Nat.succ_mul]; omega), hk, show (i + 1) * k + t - k = i * k + t by rw [Nat.succ_mul]; omega, ih i hx]
      rfl
theorem Own.store {B : Nat} {w : World} {E : TypeId} {g n cap : Nat} {l : List α} (h : Own enc k E B w (.slice (some ⟨g, 0, none⟩) n cap) l) (hn : n = l.length) (hk : ∀ x, (enc x).length = k) {i t : Nat} {x y : α} {u : Value} (hx : l[i]? = some x) (ht : t < k) (he : (enc x).set t u = enc y) :
    Own enc k E B (w.setCell ⟨g, i * k + t, none⟩ u) (.slice (some ⟨g, 0, none⟩) n cap) (l.set i y) := by
  subst hn
  have := (World.ownsRow.stored h (i * k + t) u).1
  rw [flat_set hk l i t x y u hx ht he] at this
  unfold Own
  rw [List.length_set]
  exact this
theorem Own.form {B : Nat} {w : World} {E : TypeId} {v : Value} {l : List α} (h : Own enc k E B w v l) (hne : l ≠ []) : ∃ g cap, v = .slice (some ⟨g, 0, none⟩) l.length cap ∧ B ≤ g ∧ g < w.heap.size ∧ l.length ≤ cap ∧ cap ≤ maxLen := by
  rcases h.2 with ⟨rfl, hn⟩ | ⟨g, cap, cur, rfl, hB, hg, hn, hm, hs, ht⟩
  · exact absurd (List.eq_nil_of_length_eq_zero hn) hne
  · exact ⟨g, cap, rfl, hB, heap_lt hg, hn, hm⟩
theorem Own.cellAt {B : Nat} {w : World} {E : TypeId} {g n cap : Nat} {l : List α} (h : Own enc k E B w (.slice (some ⟨g, 0, none⟩) n cap) l) (hn : n = l.length) (hk : ∀ x, (enc x).length = k) {i t : Nat} {x : α} {u : Value} (hx : l[i]? = some x) (ht : t < k) (hu : (enc x)[t]? = some u) :
    w.cell? ⟨g, i * k + t, none⟩ = some u ∧ w.frozen? ⟨g, i * k + t, none⟩ = false := by
  subst hn
  have hi := lt_of_some hx
  have hlt : i * k + t < l.length * k := by
    have : (i + 1) * k ≤ l.length * k := Nat.mul_le_mul_right k hi
    rw [Nat.succ_mul] at this
    omega
  refine ⟨?_, World.ownsRow.frozenAt h _⟩
  rw [World.ownsRow.cellAt h (i * k + t) hlt, ← hu]
  exact flat_get hk l i t x hx ht
theorem drewN_below {B : Nat} {a w : World} (h : Below B a w) (n : Nat) : Below B a (w.drewN n) := ⟨h.os, h.tape, h.output, h.size, h.block⟩
theorem take_flat {α β : Type} (f : α → List β) {l : List α} {k : Nat} {p : α} (h : l[k]? = some p) : (l.take (k + 1)).flatMap f = (l.take k).flatMap f ++ f p := by
  rw [List.take_add_one, h, List.flatMap_append]
  simp
theorem flat_len_le {α β : Type} (f : α → List β) (n : Nat) (h : ∀ x, (f x).length ≤ n) (l : List α) : (l.flatMap f).length ≤ l.length * n := by
  induction l with
  | nil => simp
  | cons x t ih => simp only [List.flatMap_cons, List.length_append, List.length_cons]; have := h x; rw [Nat.succ_mul]; omega
end Go.Proofs.Ytaohnngadjhmjaa.sl
