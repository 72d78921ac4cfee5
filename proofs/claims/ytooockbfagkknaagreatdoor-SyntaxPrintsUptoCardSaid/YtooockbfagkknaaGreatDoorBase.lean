/- Slices of elements of k cells that hold no addresses: how they lie, read alone or owned. -/
import Derived.Test.YtooockbfagkknaaGreatDoorChecked
import Derived.WalkKit
import Derived.Lib.Hide
import Derived.Deep.LoopGhost
import Derived.Deep.DeepCutAuto
import Derived.Laws.AppendOwnNone
import Derived.BigQuiet
import Derived.Deep.QuietTactic
import Derived.Lib.MinMax
import Derived.Deep.DeepMust
namespace Go.Proofs.YtooockbfagkknaaGreatDoor.sl
open Go.RowKit
variable {α : Type} {enc : α → List Value} {k : Nat}
theorem heap_lt {w : World} {k : Nat} {o : Obj} (h : w.heap[k]? = some o) : k < w.heap.size := by
  rcases Nat.lt_or_ge k w.heap.size with h' | h'
  · exact h'
  · rw [Array.getElem?_eq_none h'] at h; cases h
theorem cell_lt {w : World} {a : Addr} {v : Value} (h : w.cell? a = some v) : a.block < w.heap.size := by
  rcases Nat.lt_or_ge a.block w.heap.size with h' | h'
  · exact h'
  · simp [World.cell?, Array.getElem?_eq_none h'] at h
/-- The cells of a list, one element behind the other. -/
def flat (enc : α → List Value) (l : List α) : List Value := l.flatMap enc
theorem flat_len (hk : ∀ x, (enc x).length = k) (l : List α) : (flat enc l).length = l.length * k := by
  induction l with
  | nil => simp [flat]
  | cons x t ih =>
    have : flat enc (x :: t) = enc x ++ flat enc t := rfl
    rw [this, List.length_append, hk, ih, List.length_cons, Nat.succ_mul]; omega
theorem flat_append (l m : List α) : flat enc (l ++ m) = flat enc l ++ flat enc m := by simp [flat]
theorem flat_get (hk : ∀ x, (enc x).length = k) (l : List α) (i t : Nat) (x : α) (hx : l[i]? = some x) (ht : t < k) : (flat enc l)[i * k + t]? = (enc x)[t]? := by
  induction l generalizing i with
  | nil => simp at hx
  | cons y m ih =>
    have e : flat enc (y :: m) = enc y ++ flat enc m := rfl
    rcases i with _ | i
    · simp only [List.getElem?_cons_zero, Option.some.injEq] at hx
      subst hx
      rw [e, List.getElem?_append_left (by rw [hk]; omega)]
      simp
    · simp only [List.getElem?_cons_succ] at hx
      rw [e, List.getElem?_append_right (by rw [hk, Nat.succ_mul]; omega), hk, ← ih i hx]
      congr 1
      rw [Nat.succ_mul]; omega
/-- A slice's value that reads as a list. -/
structure Rd (enc : α → List Value) (w : World) (a : Option Addr) (l : List α) (cap : Nat) : Prop where
  none_ : a = none → l = [] ∧ cap = 0
  le : l.length ≤ cap
  max : cap ≤ maxLen
  at_ : ∀ ad, a = some ad → 0 < cap → ad.spot = none ∧ ad.block < w.heap.size ∧ ∀ j u, (flat enc l)[j]? = some u → w.cell? ⟨ad.block, ad.off + j, none⟩ = some u
theorem Rd.nil (enc : α → List Value) (w : World) : Rd enc w none [] 0 := ⟨fun _ => ⟨rfl, rfl⟩, Nat.le_refl _, by simp [maxLen], fun _ h _ => by cases h⟩
theorem Rd.cells {w : World} {a : Option Addr} {l : List α} {cap : Nat} (h : Rd enc w a l cap) (hk : ∀ x, (enc x).length = k) {i : Nat} {x : α} (hx : l[i]? = some x) :
    ∃ b off, a = some ⟨b, off, none⟩ ∧ b < w.heap.size ∧ ∀ t u, t < k → (enc x)[t]? = some u → w.cell? ⟨b, off + (i * k + t), none⟩ = some u := by
  obtain ⟨h1, h2, h3, h4⟩ := h
  rcases a with _ | ⟨b, off, sp⟩
  · obtain ⟨rfl, _⟩ := h1 rfl
    simp at hx
  · have hi : i < l.length := by
      rcases Nat.lt_or_ge i l.length with h' | h'
      · exact h'
      · rw [List.getElem?_eq_none h'] at hx; cases hx
    obtain ⟨hs, hb, hc⟩ := h4 _ rfl (by omega)
    obtain rfl : sp = none := hs
    exact ⟨b, off, rfl, hb, fun t u ht hu => hc _ _ (by rw [flat_get hk l i t x hx ht]; exact hu)⟩
theorem Rd.drewN' {w : World} {a : Option Addr} {l : List α} {cap : Nat} (h : Rd enc w a l cap) (n : Nat) : Rd enc (w.drewN n) a l cap := ⟨h.none_, h.le, h.max, h.at_⟩
theorem Rd.below {w w' : World} {a : Option Addr} {l : List α} {cap : Nat} (h : Rd enc w a l cap) {B : Nat} (hb : Below B w w') (hB : ∀ ad, a = some ad → 0 < cap → ad.block < B) : Rd enc w' a l cap :=
  ⟨h.none_, h.le, h.max, fun ad e hp => by
    obtain ⟨h1, h2, h3⟩ := h.at_ ad e hp
    exact ⟨h1, Nat.lt_of_lt_of_le h2 hb.size, fun j u hu => (hb.cell (p := ⟨ad.block, ad.off + j, none⟩) (hB ad e hp)).trans (h3 j u hu)⟩⟩
theorem Rd.kept {w w' : World} {a : Option Addr} {l : List α} {cap : Nat} (h : Rd enc w a l cap) (hb : Below w.heap.size w w') : Rd enc w' a l cap :=
  h.below hb fun ad e hp => (h.at_ ad e hp).2.1
/-- A slice's value in new memory, owned. -/
def Own (enc : α → List Value) (k : Nat) (E : TypeId) (B : Nat) (w : World) (v : Value) (l : List α) : Prop := w.ownsRow B E k v l.length (flat enc l)
theorem Own.rd {w : World} {E : TypeId} {B : Nat} {v : Value} {l : List α} (h : Own enc k E B w v l) : ∃ a cap, v = .slice a l.length cap ∧ Rd enc w a l cap ∧ ∀ ad, a = some ad → B ≤ ad.block := by
  rcases h.2 with ⟨rfl, hn⟩ | ⟨g, cap, cur, rfl, hB, hg, hn, hm, hs, ht⟩
  · have : l = [] := List.eq_nil_of_length_eq_zero hn
    subst this
    exact ⟨none, 0, rfl, Rd.nil _ _, fun _ h => nomatch h⟩
  · refine ⟨some ⟨g, 0, none⟩, cap, rfl, ⟨fun h => (nomatch h), hn, hm, fun ad e _ => ?_⟩, fun ad e => (by cases e; exact hB)⟩
    cases e
    refine ⟨rfl, heap_lt hg, fun j u hu => ?_⟩
    simp only [World.cell?, hg, Nat.zero_add]
    rw [← ht, List.getElem?_take] at hu
    split at hu
    · simpa using hu
    · cases hu
theorem getD_eq {l : List α} {i : Nat} (h : i < l.length) (d : α) : l[i]? = some (l.getD i d) := by
  rw [List.getD_eq_getElem?_getD, List.getElem?_eq_getElem h]; rfl
structure ElemTy (P : Program) (T E : TypeId) (k bytes : Nat) : Prop where
  und : P.underlying T = some (.slice E)
  ex : ∃ i z, P.info? E = some i ∧ i.zero = some z ∧ i.size = k ∧ i.bytes = bytes ∧ z.cells.size = k
  pos : 0 < k
theorem ElemTy.mk' {P : Program} {T E : TypeId} {k bytes : Nat} {z : Value} (h1 : P.underlying T = some (.slice E)) (h2 : (P.info? E).map (fun i => (i.zero, i.size, i.bytes)) = some (some z, k, bytes)) (h3 : z.cells.size = k) (h4 : 0 < k) : ElemTy P T E k bytes := by
  obtain ⟨i, hi, hz, hs, hb⟩ := info_parts h2
  exact ⟨h1, ⟨i, z, hi, hz, hs, hb, h3⟩, h4⟩
theorem Own.nil (enc : α → List Value) (k : Nat) (E : TypeId) (B : Nat) (w : World) : Own enc k E B w (.slice none 0 0) [] := World.ownsRow_nil _ _ _ _
theorem Own.alloc {w : World} {E : TypeId} {B : Nat} {v : Value} {l : List α} (h : Own enc k E B w v l) (o : Obj) : Own enc k E B (w.alloc o) v l := World.ownsRow.alloc h o
theorem Own.drewN {w : World} {E : TypeId} {B : Nat} {v : Value} {l : List α} (h : Own enc k E B w v l) (n : Nat) : Own enc k E B (w.drewN n) v l := h
theorem Own.below {w w' : World} {E : TypeId} {B : Nat} {v : Value} {l : List α} (h : Own enc k E B w v l) {B' : Nat} (hb : Below B' w w') (hB : w.heap.size ≤ B') : Own enc k E B w' v l := by
  refine ⟨h.1, ?_⟩
  rcases h.2 with h2 | ⟨g, cap, cur, h1, h2, h3, h4⟩
  · exact .inl h2
  · exact .inr ⟨g, cap, cur, h1, h2, (hb.block g (Nat.lt_of_lt_of_le (heap_lt h3) hB)).trans h3, h4⟩
theorem Own.lt {w : World} {E : TypeId} {B : Nat} {v : Value} {l : List α} (h : Own enc k E B w v l) : ∀ k, v.ownBlock = some k → B ≤ k ∧ k < w.heap.size := World.ownsRow.lt h
theorem Own.mono {w : World} {E : TypeId} {B B' : Nat} {v : Value} {l : List α} (h : Own enc k E B w v l) (hB : B' ≤ B) : Own enc k E B' w v l := by
  refine ⟨h.1, ?_⟩
  rcases h.2 with h2 | ⟨g, cap, cur, h1, h2, h3⟩
  · exact .inl h2
  · exact .inr ⟨g, cap, cur, h1, Nat.le_trans hB h2, h3⟩
theorem Below.grow {w0 w w' : World} {E : TypeId} {B B0 : Nat} {v : Value} {l : List α} (hb : Below B0 w0 w) (h : Own enc k E B w v l) (hg : w.grownBy w' v.ownBlock) (hB : B0 ≤ B) (hs : B0 ≤ w.heap.size) : Below B0 w0 w' :=
  hb.grown hg hs fun k hk => Nat.le_trans hB (h.lt k hk).1
theorem Rd.built {w : World} {E : TypeId} {cs : Array Value} (l : List α) (n : Nat) (hn : l.length = n) (hc : cs.toList = flat enc l) (hm : n ≤ 4096) : Rd enc (w.alloc (.cells cs E)) (some ⟨w.heap.size, 0, none⟩) l n :=
  ⟨fun h => (nomatch h), by omega, by unfold maxLen; omega, fun ad e _ => by
    cases e
    refine ⟨rfl, by simp, fun j u hu => ?_⟩
    rw [← hc] at hu
    simp
    simpa using hu⟩
theorem wpList_app {P : Program} {w : World} {ops : Array Oper} {rest : List Oper} {o : Oper} {a : Act} {Q : Exit → Act → World → Prop} {T E : TypeId} {bytes B : Nat} {s x : Operand} {v : Value} {ao : Option Addr} {m c : Nat} {l l2 : List α}
    (ET : ElemTy P T E k bytes) (hgd : o.guard = none) (ho : o.op = .call { callee := .builtin .append, args := #[s, x], argTypes := #[T, T] })
    (hs : a.eval s = v) (hx : a.eval x = .slice ao m c) (hown : Own enc k E B w v l) (hsrc : Rd enc w ao l2 c) (hm : m = l2.length) (hk : ∀ x, (enc x).length = k) (h1 : ∀ x, ∀ u ∈ enc x, u.oneCell' = true)
    (hmax : l.length + l2.length ≤ 1000000000) (hby : bytes ≤ 65536) (hB : B ≤ w.heap.size)
    (h : ∀ v' w', Own enc k E B w' v' (l ++ l2) → w.grownBy w' v.ownBlock → wpList P ops Q rest (a.put o.dst v') w') : wpList P ops Q (o :: rest) a w := by
  obtain ⟨hu, ⟨i, z, hi, hz, hsz, hbt, hzc⟩, hp⟩ := ET
  rcases ao with _ | ⟨b, off, sp⟩
  · obtain ⟨rfl, rfl⟩ := hsrc.none_ rfl
    subst hm
    refine wpList_append_own_none hgd s x T ho B E i k hu hi v l.length _ hs hown hx ?_
    exact h _ _ (by simpa using hown) (World.grownBy.refl _ _)
  · have hcs : ∀ j u, (flat enc l2)[j]? = some u → w.cell? ((⟨b, off, sp⟩ : Addr).add j) = some u := fun j u hj => by
      have hle := hsrc.le
      have hl2 : 0 < l2.length := by
        rcases l2 with _ | ⟨y, t⟩
        · simp [flat] at hj
        · simp
      obtain ⟨hsp, _, hc⟩ := hsrc.at_ _ rfl (by omega)
      obtain rfl : sp = none := hsp
      have := hc j u hj
      rw [Addr.add_lit]
      exact this
    have hmul : (l.length + l2.length) * bytes ≤ 1000000000 * 65536 := Nat.mul_le_mul hmax hby
    refine wpList_append_own w hgd s x T ho B E i z k bytes hu hi hz hsz hbt hzc hp v l.length _ hs hown ⟨b, off, sp⟩ m c (flat enc l2) hx (by rw [flat_len hk, hm]) hcs (fun u hu => ?_) (by unfold maxLen; omega) (by subst hm; omega) hB ?_
    · obtain ⟨y, _, hy⟩ := List.mem_flatMap.1 hu
      exact h1 y u hy
    · intro v' w' h2 h3 _
      refine h v' w' ?_ h3
      unfold Own
      rw [flat_append, List.length_append, ← hm]
      exact h2
theorem wpList_app1 {P : Program} {w : World} {ops : Array Oper} {rest : List Oper} {o : Oper} {a : Act} {Q : Exit → Act → World → Prop} {T E E' : TypeId} {bytes B : Nat} {s x : Operand} {v : Value} {cs : Array Value} {l : List α} {n : Nat}
    (ET : ElemTy P T E k bytes) (hgd : o.guard = none) (ho : o.op = .call { callee := .builtin .append, args := #[s, x], argTypes := #[T, T] })
    (hs : a.eval s = v) (hx : a.eval x = .slice (some ⟨n, 0, none⟩) 1 1) (hn : n = w.heap.size) (hown : Own enc k E B w v l) (y : α) (hy : cs.toList = enc y) (hk : ∀ x, (enc x).length = k) (h1 : ∀ x, ∀ u ∈ enc x, u.oneCell' = true)
    (hmax : l.length < 1000000000) (hby : bytes ≤ 65536) (hB : B ≤ w.heap.size)
    (h : ∀ v' w', Own enc k E B w' v' (l ++ [y]) → (w.alloc (.cells cs E')).grownBy w' v.ownBlock → wpList P ops Q rest (a.put o.dst v') w') : wpList P ops Q (o :: rest) a (w.alloc (.cells cs E')) := by
  subst hn
  exact wpList_app ET hgd ho hs hx (hown.alloc _) (Rd.built [y] 1 rfl (by rw [hy]; simp [flat]) (by omega)) rfl hk h1 (by simp; omega) hby (by simp; omega) h
/-- A block of the call's own that the append may have turned: all that lies elsewhere stays. -/
theorem grow_below {w0 w w' : World} {E E' : TypeId} {B B0 : Nat} {v : Value} {l : List α} {cs : Array Value} (hb : Below B0 w0 w) (h : Own enc k E B w v l) (hg : (w.alloc (.cells cs E')).grownBy w' v.ownBlock) (hB : B0 ≤ B) (hs : B0 ≤ w.heap.size) : Below B0 w0 w' :=
  Below.grow (hb.alloc hs _) (h.alloc _) hg hB (by simp; omega)
theorem lt_of_some {β : Type} {l : List β} {i : Nat} {x : β} (h : l[i]? = some x) : i < l.length := by
  rcases Nat.lt_or_ge i l.length with h' | h'
  · exact h'
  · rw [List.getElem?_eq_none h'] at h; cases h
theorem flat_set (hk : ∀ x, (enc x).length = k) (l : List α) (i t : Nat) (x y : α) (u : Value) (hx : l[i]? = some x) (ht : t < k) (he : (enc x).set t u = enc y) : (flat enc l).set (i * k + t) u = flat enc (l.set i y) := by
  induction l generalizing i with
  | nil => simp at hx
  | cons z m ih =>
    have e : ∀ z, flat enc (z :: m) = enc z ++ flat enc m := fun _ => rfl
    rcases i with _ | i
    · simp only [List.getElem?_cons_zero, Option.some.injEq] at hx
      subst hx
      rw [List.set_cons_zero, e, e, List.set_append_left _ _ (by rw [hk]; omega), ← he]
      simp
    · simp only [List.getElem?_cons_succ] at hx
      rw [List.set_cons_succ, e, List.set_append_right _ _ (by rw [hk, Nat.succ_mul]; omega), hk, show (i + 1) * k + t - k = i * k + t by rw [Nat.succ_mul]; omega, ih i hx]
      rfl
theorem Own.store {B : Nat} {w : World} {E : TypeId} {g n cap : Nat} {l : List α} (h : Own enc k E B w (.slice (some ⟨g, 0, none⟩) n cap) l) (hn : n = l.length) (hk : ∀ x, (enc x).length = k) {i t : Nat} {x y : α} {u : Value} (hx : l[i]? = some x) (ht : t < k) (he : (enc x).set t u = enc y) :
    Own enc k E B (w.setCell ⟨g, i * k + t, none⟩ u) (.slice (some ⟨g, 0, none⟩) n cap) (l.set i y) := by
  subst hn
  have := (World.ownsRow.stored h (i * k + t) u).1
  rw [flat_set hk l i t x y u hx ht he] at this
  unfold Own
  rw [List.length_set]
  exact this
theorem Own.form {B : Nat} {w : World} {E : TypeId} {v : Value} {l : List α} (h : Own enc k E B w v l) (hne : l ≠ []) : ∃ g cap, v = .slice (some ⟨g, 0, none⟩) l.length cap ∧ B ≤ g ∧ g < w.heap.size ∧ l.length ≤ cap ∧ cap ≤ maxLen := by
  rcases h.2 with ⟨rfl, hn⟩ | ⟨g, cap, cur, rfl, hB, hg, hn, hm, hs, ht⟩
  · exact absurd (List.eq_nil_of_length_eq_zero hn) hne
  · exact ⟨g, cap, rfl, hB, heap_lt hg, hn, hm⟩
theorem Own.cellAt {B : Nat} {w : World} {E : TypeId} {g n cap : Nat} {l : List α} (h : Own enc k E B w (.slice (some ⟨g, 0, none⟩) n cap) l) (hn : n = l.length) (hk : ∀ x, (enc x).length = k) {i t : Nat} {x : α} {u : Value} (hx : l[i]? = some x) (ht : t < k) (hu : (enc x)[t]? = some u) :
    w.cell? ⟨g, i * k + t, none⟩ = some u ∧ w.frozen? ⟨g, i * k + t, none⟩ = false := by
  subst hn
  have hi := lt_of_some hx
  have hlt : i * k + t < l.length * k := by
    have : (i + 1) * k ≤ l.length * k := Nat.mul_le_mul_right k hi
    rw [Nat.succ_mul] at this
    omega
  refine ⟨?_, World.ownsRow.frozenAt h _⟩
  rw [World.ownsRow.cellAt h (i * k + t) hlt, ← hu]
  exact flat_get hk l i t x hx ht
theorem drewN_below {B : Nat} {a w : World} (h : Below B a w) (n : Nat) : Below B a (w.drewN n) := ⟨h.os, h.tape, h.output, h.size, h.block⟩
theorem take_flat {α β : Type} (f : α → List β) {l : List α} {k : Nat} {p : α} (h : l[k]? = some p) : (l.take (k + 1)).flatMap f = (l.take k).flatMap f ++ f p := by
  rw [List.take_add_one, h, List.flatMap_append]
  simp
theorem flat_len_le {α β : Type} (f : α → List β) (n : Nat) (h : ∀ x, (f x).length ≤ n) (l : List α) : (l.flatMap f).length ≤ l.length * n := by
  induction l with
  | nil => simp
  | cons x t ih => simp only [List.flatMap_cons, List.length_append, List.length_cons]; have := h x; rw [Nat.succ_mul]; omega
end Go.Proofs.YtooockbfagkknaaGreatDoor.sl
/- append on an owned slice, and where what comes lies: in the same block, or in a new one. -/
namespace Go.Proofs.YtooockbfagkknaaGreatDoor.sl
open Go.RowKit
variable {α : Type} {enc : α → List Value} {k : Nat}
/-- The block of v' is that of v, or a new one. -/
def Fresh (w : World) (v v' : Value) : Prop := v'.ownBlock = v.ownBlock ∨ v'.ownBlock = none ∨ ∃ k, v'.ownBlock = some k ∧ w.heap.size ≤ k
theorem run_app {P : Program} (w : World) {T E ty : TypeId} {bytes B : Nat} {v : Value} {b off m c : Nat} {l : List α} (news : List Value)
    (ET : ElemTy P T E k bytes) (hown : Own enc k E B w v l) (hl : news.length = m * k) (hnews : ∀ j u, news[j]? = some u → w.cell? ⟨b, off + j, none⟩ = some u) (h1 : ∀ u ∈ news, u.oneCell' = true)
    (h63 : l.length + m ≤ maxLen) (hbytes : (l.length + m) * bytes ≤ 140737488355328) (hB : B ≤ w.heap.size) :
    ∃ v' w', (Builtin.append_ #[T, T] ty #[v, .slice (some ⟨b, off, none⟩) m c]).run P w = .ok v' w' ∧ w'.ownsRow B E k v' (l.length + m) (flat enc l ++ news) ∧ w.grownBy w' v.ownBlock ∧ Fresh w v v' := by
  obtain ⟨hu, ⟨i, z, hi, hz, hsz, hbt, hzc⟩, hp⟩ := ET
  have hn' : ∀ j u, news[j]? = some u → w.cell? ((⟨b, off, none⟩ : Addr).add j) = some u := fun j u h => by rw [Addr.add_lit]; exact hnews j u h
  obtain ⟨v', w', hr, h2, h3, _⟩ := run_append_own (P := P) w B T ty E i z k bytes hu hi hz hsz hbt hzc hp v l.length _ hown ⟨b, off, none⟩ m c news hl hn' h1 h63 hbytes hB
  refine ⟨v', w', hr, h2, h3, ?_⟩
  rcases hown.2 with ⟨rfl, hn⟩ | ⟨g, cap, cur, rfl, hBg, hg, hnc, hcm, hcs, htake⟩
  · have hl0 : l = [] := List.eq_nil_of_length_eq_zero hn
    subst hl0
    obtain ⟨v2, w2, hr2, k2, _, _⟩ := run_append_own (P := P) w w.heap.size T ty E i z k bytes hu hi hz hsz hbt hzc hp (.slice none 0 0) 0 [] (World.ownsRow_nil _ _ _ _) ⟨b, off, none⟩ m c news hl hn' h1 (by simpa using h63) (by simpa using hbytes) (Nat.le_refl _)
    rw [hr] at hr2
    cases hr2
    rcases k2.2 with ⟨rfl, _⟩ | ⟨g2, cap2, cur2, rfl, hg2, _⟩
    · exact .inr (.inl rfl)
    · exact .inr (.inr ⟨g2, rfl, hg2⟩)
  · by_cases hroom : l.length + m ≤ cap
    · have hfit : l.length * i.size + news.length ≤ cur.size := by rw [hl, hcs, hsz, ← Nat.add_mul]; exact Nat.mul_le_mul_right _ hroom
      have hr2 := run_append_room (P := P) w T ty E i hu hi g l.length cap cur hg ⟨b, off, none⟩ m c news (by rw [hsz]; exact hl) hn' h1 hroom hfit
      rw [hr] at hr2
      cases hr2
      exact .inl rfl
    · have holds : ∀ j u, (flat enc l)[j]? = some u → w.cell? ((⟨g, 0, none⟩ : Addr).add j) = some u := World.ownsRow.cells hown (g := g) rfl
      have hsm : l.length + m ≤ 9223372036854775807 := by simp only [maxLen] at h63; omega
      have hr2 := run_append_grow (P := P) w T ty E i z hu hi hz ⟨g, 0, none⟩ l.length cap (flat enc l) (by rw [hsz]; exact hown.1) holds ⟨b, off, none⟩ m c news (by rw [hsz]; exact hl) hn' (by omega) (by omega) (growslice_fits (by omega) (by rw [hbt]; exact hbytes))
      rw [hr] at hr2
      cases hr2
      exact .inr (.inr ⟨_, rfl, Nat.le_refl _⟩)
theorem wpList_app1F {P : Program} {w : World} {ops : Array Oper} {rest : List Oper} {o : Oper} {a : Act} {Q : Exit → Act → World → Prop} {T E E' : TypeId} {bytes B : Nat} {s x : Operand} {v : Value} {cs : Array Value} {l : List α} {n : Nat}
    (ET : ElemTy P T E k bytes) (hgd : o.guard = none) (ho : o.op = .call { callee := .builtin .append, args := #[s, x], argTypes := #[T, T] })
    (hs : a.eval s = v) (hx : a.eval x = .slice (some ⟨n, 0, none⟩) 1 1) (hn : n = w.heap.size) (hown : Own enc k E B w v l) (y : α) (hy : cs.toList = enc y) (hk : ∀ x, (enc x).length = k) (h1 : ∀ x, ∀ u ∈ enc x, u.oneCell' = true)
    (hmax : l.length < 1000000000) (hby : bytes ≤ 65536) (hB : B ≤ w.heap.size)
    (h : ∀ v' w', Own enc k E B w' v' (l ++ [y]) → (w.alloc (.cells cs E')).grownBy w' v.ownBlock → Fresh w v v' → wpList P ops Q rest (a.put o.dst v') w') : wpList P ops Q (o :: rest) a (w.alloc (.cells cs E')) := by
  subst hn
  have hmul : (l.length + 1) * bytes ≤ 1000000000 * 65536 := Nat.mul_le_mul (by omega) hby
  have hrd := Rd.built (w := w) (E := E') (cs := cs) (enc := enc) [y] 1 rfl (by simp [hy, flat]) (by omega)
  obtain ⟨_, _, hc⟩ := hrd.at_ _ rfl (by omega)
  obtain ⟨v', w', hr, h2, h3, h4⟩ := run_app (P := P) (ty := o.type) (m := 1) (c := 1) (w.alloc (.cells cs E')) (flat enc [y]) ET (hown.alloc _) (by rw [flat_len hk]; rfl) hc (fun u hu => by
    obtain ⟨z, _, hz⟩ := List.mem_flatMap.1 hu
    exact h1 z u hz) (by unfold maxLen; omega) (by omega) (by simp; omega)
  refine wpList_plain hgd fun K hK => ?_
  unfold Oper.wp execOp
  simp only [ho, resolve, invoke, builtin, Sem.run_bind, Sem.run_pure, Result.andThen_ok, List.map_toArray, List.map_cons, List.map_nil, hs, hx, hr]
  refine hK _ _ (h v' w' ?_ h3 ?_)
  · unfold Own
    rw [flat_append, List.length_append]
    exact h2
  · rcases h4 with h4 | h4 | ⟨j, h4, h5⟩
    · exact .inl h4
    · exact .inr (.inl h4)
    · exact .inr (.inr ⟨j, h4, by simp at h5; omega⟩)
/-- Two owned slices in different blocks. -/
def Apart (v u : Value) : Prop := ∀ k, v.ownBlock = some k → u.ownBlock ≠ some k
theorem Own.keep {w w' : World} {E : TypeId} {B : Nat} {v u : Value} {l : List α} (h : Own enc k E B w v l) (hg : w.grownBy w' u.ownBlock) (ha : Apart v u) : Own enc k E B w' v l := by
  refine World.ownsRow.kept h hg ?_
  rcases hv : v.ownBlock with _ | j
  · exact .inl rfl
  · refine .inr fun e => ha j hv e.symm
theorem Apart.fresh {w : World} {E : TypeId} {B : Nat} {v u u' : Value} {l : List α} (ha : Apart v u) (h : Own enc k E B w v l) (hf : Fresh w u u') : Apart v u' := by
  intro j hj e
  rcases hf with hf | hf | ⟨k2, hf, hk2⟩
  · exact ha j hj (hf ▸ e)
  · rw [hf] at e; cases e
  · have := (h.lt j hj).2
    rw [hf] at e
    cases e
    omega
end Go.Proofs.YtooockbfagkknaaGreatDoor.sl
namespace Go.Proofs.YtooockbfagkknaaGreatDoor.cls
open Go.RowKit Go.Proofs.YtooockbfagkknaaGreatDoor.sl
abbrev Rg := Int × Int
def er (r : Rg) : List Value := [.int .i32 r.1, .int .i32 r.2]
theorem er_len (r : Rg) : (er r).length = 2 := rfl
def hasB (l : List Rg) (r : Int) : Bool := l.any fun x => decide (x.1 ≤ r) && decide (r ≤ x.2)
theorem Rd.pair {w : World} {a : Option Addr} {l : List Rg} {cap : Nat} (h : Rd er w a l cap) {i : Nat} {x : Rg} (hx : l[i]? = some x) :
    ∃ b off, a = some ⟨b, off, none⟩ ∧ b < w.heap.size ∧ w.cell? ⟨b, off + i * 2, none⟩ = some (.int .i32 x.1) ∧ w.cell? ⟨b, off + i * 2 + 1, none⟩ = some (.int .i32 x.2) := by
  obtain ⟨b, off, h1, h2, h3⟩ := h.cells er_len hx
  exact ⟨b, off, h1, h2, h3 0 _ (by omega) rfl, by have := h3 1 (.int .i32 x.2) (by omega) rfl; rwa [← Nat.add_assoc] at this⟩
theorem has_step {l : List Rg} {k : Nat} {x : Rg} (h : l[k]? = some x) (r : Int) : hasB (l.drop k) r = ((decide (x.1 ≤ r) && decide (r ≤ x.2)) || hasB (l.drop (k + 1)) r) := by
  have hlt : k < l.length := by
    rcases Nat.lt_or_ge k l.length with h' | h'
    · exact h'
    · rw [List.getElem?_eq_none h'] at h; cases h
  rw [List.drop_eq_getElem_cons hlt]
  rw [List.getElem?_eq_getElem hlt] at h
  cases h
  rfl
theorem has_end (l : List Rg) (r : Int) : hasB (l.drop l.length) r = false := by simp [hasB]
end Go.Proofs.YtooockbfagkknaaGreatDoor.cls
/- Two lists held against each other: spoorbook.Same, slices.Equal. -/
namespace Go.Proofs.YtooockbfagkknaaGreatDoor.cls
open Go.RowKit Go.Proofs.YtooockbfagkknaaGreatDoor.sl
theorem und_rg : Tryz.prog.underlying 58 = some (.struct (Tryz.prog.fieldsOf 58)) := by kernel_rfl
theorem held_rg : Tryz.prog.stoodInHeld 58 = false := by kernel_rfl
theorem guard_rg : Tryz.prog.eqGuardType Tryz.prog.depth 58 = false := by kernel_rfl
theorem fields_rg : (Tryz.prog.fieldsOf 58).toList.map (fun f => (f.type, f.offset, f.name)) = [(21, 0, "Lo"), (21, 1, "Hi")] := by kernel_rfl
def rgEq (x y : Rg) : Bool := x.1 == y.1 && x.2 == y.2
theorem rgEq_true {x y : Rg} (h : rgEq x y = true) : x = y := by
  obtain ⟨a, b⟩ := x
  obtain ⟨c, d⟩ := y
  simp [rgEq] at h
  simp [h]
theorem rgEq_false {x y : Rg} (h : rgEq x y = false) : x ≠ y := by
  rintro rfl
  simp [rgEq] at h
theorem equalIn_rg (x y : Rg) (W : World) : (Op.equalIn 10000 58 (.agg #[.int .i32 x.1, .int .i32 x.2]) (.agg #[.int .i32 y.1, .int .i32 y.2])).run Tryz.prog W = .ok (rgEq x y) W := by
  rw [run_equalIn_agg W 9999 58 _ _ und_rg held_rg]
  have hf := fields_rg
  rcases hl : (Tryz.prog.fieldsOf 58).toList with _ | ⟨f, _ | ⟨g, _ | ⟨u, t⟩⟩⟩ <;> rw [hl] at hf <;> simp at hf
  obtain ⟨⟨h1, h2, h3⟩, h4, h5, h6⟩ := hf
  have i := Tryz.underlying21
  simp [Op.eqFields, h1, h2, h3, h4, h5, h6, go_sem, i]
  obtain ⟨a, b⟩ := x
  obtain ⟨c, d⟩ := y
  simp only [rgEq]
  by_cases h1 : a = c <;> by_cases h2 : b = d <;> simp [h1, h2]
theorem take_step {l m : List Rg} {k : Nat} {x y : Rg} (hx : l[k]? = some x) (hy : m[k]? = some y) (h : l.take k = m.take k) (e : x = y) : l.take (k + 1) = m.take (k + 1) := by
  rw [List.take_add_one, List.take_add_one, h, hx, hy, e]
theorem take_ne {l m : List Rg} {k : Nat} {x y : Rg} (hx : l[k]? = some x) (hy : m[k]? = some y) (e : x ≠ y) : l ≠ m := by
  rintro rfl
  rw [hx] at hy
  cases hy
  exact e rfl
set_option maxHeartbeats 2000000 in
theorem same (a b : Option Addr) (l m : List Rg) (c1 c2 : Nat) (w : World) (h : Rd er w a l c1) (h' : Rd er w b m c2) :
    Calls Tryz.prog 22 #[.slice a l.length c1, .slice b m.length c2] w fun e w' => e = .returned (.bool (decide (l = m))) ∧ Below w.heap.size w w' := by
  have hm1 := h.max
  have hle1 := h.le
  have hm2 := h'.max
  have hle2 := h'.le
  unfold maxLen at hm1 hm2
  have H := Lib.hid h
  have H' := Lib.hid h'
  clear h h'
  by_cases hl : l.length = m.length
  · have HL := Lib.hid hl
    have hb1 : ((l.length : Int) != (m.length : Int)) = false := by simp; omega
    clear hl
    go_enter Tryz.func22, Tryz.ntmps22
    go_wp2_with fail
    go_loopg [5] l.length (fun g i wr => ∃ k : Nat, k ≤ l.length ∧ g = l.length - k ∧ i = .int .i64 k ∧ l.take k = m.take k ∧ Below w.heap.size w wr)
    case atStart => exact ⟨0, by omega, rfl, rfl, rfl, Below.refl _ _⟩
    case round =>
      obtain ⟨k, hk, rfl, rfl, hh, hb⟩ := hrel
      have HH := Lib.hid hh
      clear hh
      by_cases hlt : k < l.length
      · have hlt2 : k < m.length := by have := HL.out; omega
        obtain ⟨x, hx⟩ : ∃ x, l[k]? = some x := ⟨_, List.getElem?_eq_getElem hlt⟩
        obtain ⟨y, hy⟩ : ∃ y, m[k]? = some y := ⟨_, List.getElem?_eq_getElem hlt2⟩
        obtain ⟨b1, o1, rfl, hbl, c0, c1⟩ := Rd.pair (H.out.kept hb) hx
        obtain ⟨b2, o2, rfl, hbl2, c0', c1'⟩ := Rd.pair (H'.out.kept hb) hy
        have HX := Lib.hid hx
        have HY := Lib.hid hy
        clear hx hy
        have e1 := equalIn_rg
        have e2 := guard_rg
        have i1 : (k : Int) < (l.length : Int) := by omega
        have i2 : (k : Int) < (m.length : Int) := by omega
        cases hq : rgEq x y
        · go_wp2_with fail
          go_quiet (fail)
          go_wp2_with fail
          go_ret
          exact ⟨by rw [decide_eq_false (take_ne HX.out HY.out (rgEq_false hq))]; rfl, drewN_below hb _⟩
        · go_wp2_with fail
          go_quiet (fail)
          go_wp2_with fail
          go_roundg (l.length - (k + 1))
          case measure => omega
          case rel => exact ⟨k + 1, by omega, rfl, by go_num, take_step HX.out HY.out HH.out (rgEq_true hq), drewN_below hb _⟩
      · obtain rfl : k = l.length := by omega
        go_wp2_with fail
        go_ret
        refine ⟨?_, hb⟩
        have : l = m := by have := HH.out; rwa [List.take_length, HL.out, List.take_length] at this
        simp [this]
  · have HL := Lib.hid hl
    have hb1 : ((l.length : Int) != (m.length : Int)) = true := by simp; omega
    clear hl
    go_enter Tryz.func22, Tryz.ntmps22
    go_wp2_with fail
    go_ret
    exact ⟨by rw [decide_eq_false fun e : l = m => HL.out (congrArg _ e)]; rfl, Below.refl _ _⟩
set_option maxHeartbeats 2000000 in
theorem equal (a b : Option Addr) (l m : List Rg) (c1 c2 : Nat) (w : World) (h : Rd er w a l c1) (h' : Rd er w b m c2) :
    Calls Tryz.prog 56 #[.slice a l.length c1, .slice b m.length c2] w fun e w' => e = .returned (.bool (decide (l = m))) ∧ Below w.heap.size w w' := by
  have hm1 := h.max
  have hle1 := h.le
  have hm2 := h'.max
  have hle2 := h'.le
  unfold maxLen at hm1 hm2
  have H := Lib.hid h
  have H' := Lib.hid h'
  clear h h'
  by_cases hl : l.length = m.length
  · have HL := Lib.hid hl
    have hb1 : ((l.length : Int) != (m.length : Int)) = false := by simp; omega
    clear hl
    go_enter Tryz.func56, Tryz.ntmps56
    go_wp2_with fail
    go_loopg [13] l.length (fun g i wr => ∃ k : Nat, k ≤ l.length ∧ g = l.length - k ∧ i = .int .i64 k ∧ l.take k = m.take k ∧ Below w.heap.size w wr)
    case atStart => exact ⟨0, by omega, rfl, rfl, rfl, Below.refl _ _⟩
    case round =>
      obtain ⟨k, hk, rfl, rfl, hh, hb⟩ := hrel
      have HH := Lib.hid hh
      clear hh
      by_cases hlt : k < l.length
      · have hlt2 : k < m.length := by have := HL.out; omega
        obtain ⟨x, hx⟩ : ∃ x, l[k]? = some x := ⟨_, List.getElem?_eq_getElem hlt⟩
        obtain ⟨y, hy⟩ : ∃ y, m[k]? = some y := ⟨_, List.getElem?_eq_getElem hlt2⟩
        obtain ⟨b1, o1, rfl, hbl, c0, c1⟩ := Rd.pair (H.out.kept hb) hx
        obtain ⟨b2, o2, rfl, hbl2, c0', c1'⟩ := Rd.pair (H'.out.kept hb) hy
        have HX := Lib.hid hx
        have HY := Lib.hid hy
        clear hx hy
        have e1 := equalIn_rg
        have e2 := guard_rg
        have i1 : (k : Int) < (l.length : Int) := by omega
        have i2 : (k : Int) < (m.length : Int) := by omega
        cases hq : rgEq x y
        · go_wp2_with fail
          go_quiet (fail)
          go_wp2_with fail
          go_ret
          exact ⟨by rw [decide_eq_false (take_ne HX.out HY.out (rgEq_false hq))]; rfl, drewN_below hb _⟩
        · go_wp2_with fail
          go_quiet (fail)
          go_wp2_with fail
          go_roundg (l.length - (k + 1))
          case measure => omega
          case rel => exact ⟨k + 1, by omega, rfl, by go_num, take_step HX.out HY.out HH.out (rgEq_true hq), drewN_below hb _⟩
      · obtain rfl : k = l.length := by omega
        go_wp2_with fail
        go_ret
        refine ⟨?_, hb⟩
        have : l = m := by have := HH.out; rwa [List.take_length, HL.out, List.take_length] at this
        simp [this]
  · have HL := Lib.hid hl
    have hb1 : ((l.length : Int) != (m.length : Int)) = true := by simp; omega
    clear hl
    go_enter Tryz.func56, Tryz.ntmps56
    go_wp2_with fail
    go_ret
    exact ⟨by rw [decide_eq_false fun e : l = m => HL.out (congrArg _ e)]; rfl, Below.refl _ _⟩
end Go.Proofs.YtooockbfagkknaaGreatDoor.cls
/- The closure of class.Make; valid; few. -/
namespace Go.Proofs.YtooockbfagkknaaGreatDoor.cls
open Go.RowKit Go.Proofs.YtooockbfagkknaaGreatDoor.sl
def validB (r : Int) : Bool := decide (0 ≤ r) && decide (r ≤ 1114111) && (decide (r < 55296) || decide (57343 < r))
set_option maxHeartbeats 2000000 in
theorem cmp (x y : Rg) (w : World) (h : -2147483648 ≤ x.1 - y.1 ∧ x.1 - y.1 ≤ 2147483647) : Calls Tryz.prog 94 #[.agg #[.int .i32 x.1, .int .i32 x.2], .agg #[.int .i32 y.1, .int .i32 y.2]] w fun e w' => e = .returned (.int .i64 (x.1 - y.1)) ∧ w' = (w.alloc (.cells #[.int .i32 x.1, .int .i32 x.2] 58)).alloc (.cells #[.int .i32 y.1, .int .i32 y.2] 58) := by
  obtain ⟨h1, h2⟩ := h
  go_enter Tryz.func94, Tryz.ntmps94
  go_wp2_with fail
  go_ret
  exact ⟨rfl, rfl⟩
theorem Rd.take {w : World} {a : Option Addr} {l : List Rg} {cap n : Nat} (h : Rd er w a l cap) : Rd er w a (l.take n) cap := by
  refine ⟨fun e => by simp [h.none_ e], by simp; have := h.le; omega, h.max, fun ad e hp => ?_⟩
  obtain ⟨h1, h2, h3⟩ := h.at_ ad e hp
  refine ⟨h1, h2, fun j u hj => h3 j u ?_⟩
  have e : flat er l = flat er (l.take n) ++ flat er (l.drop n) := by rw [← flat_append, List.take_append_drop]
  have hj' : j < (flat er (l.take n)).length := by
    rcases Nat.lt_or_ge j (flat er (l.take n)).length with h | h
    · exact h
    · rw [List.getElem?_eq_none h] at hj; cases hj
  rw [e, List.getElem?_append_left hj']
  exact hj
end Go.Proofs.YtooockbfagkknaaGreatDoor.cls
/- class.runes; the closure of class.Make; few; valid. -/
namespace Go.Proofs.YtooockbfagkknaaGreatDoor.cls
open Go.RowKit Go.Proofs.YtooockbfagkknaaGreatDoor.sl
theorem er_one (r : Rg) : ∀ u ∈ er r, u.oneCell' = true := by
  intro u hu
  simp [er] at hu
  rcases hu with rfl | rfl <;> rfl
theorem elem_rg : ElemTy Tryz.prog 33 58 2 8 := ElemTy.mk' (z := .agg #[.int .i32 0, .int .i32 0]) Tryz.underlying33 (by kernel_rfl) rfl (by decide)
abbrev OwnR (B : Nat) (w : World) (v : Value) (l : List Rg) : Prop := Own er 2 58 B w v l
def clip (r p : Rg) : List Rg := if max r.1 p.1 ≤ min r.2 p.2 then [(max r.1 p.1, min r.2 p.2)] else []
def parts : List Rg := [(0, 55295), (57344, 1114111)]
def runesF (r : Rg) : List Rg := parts.flatMap (clip (max r.1 0, min r.2 1114111))
theorem clip_len (r p : Rg) : (clip r p).length ≤ 1 := by unfold clip; split <;> simp
theorem runes_len (r : Rg) : (runesF r).length ≤ 2 := flat_len_le _ 1 (clip_len _) parts
set_option maxHeartbeats 2000000 in
theorem runes (x y : Int) (w : World) :
    Calls Tryz.prog 92 #[.agg #[.int .i32 x, .int .i32 y]] w fun e w' => ∃ v, e = .returned v ∧ OwnR w.heap.size w' v (runesF (x, y)) ∧ Below w.heap.size w w' := by
  obtain ⟨lo, hlo⟩ : ∃ lo, lo = max x 0 := ⟨_, rfl⟩
  obtain ⟨hi, hhi⟩ : ∃ hi, hi = min y 1114111 := ⟨_, rfl⟩
  have HLO := Lib.hid hlo
  have HHI := Lib.hid hhi
  clear hlo hhi
  go_enter Tryz.func92, Tryz.ntmps92
  go_wp2_with fail
  rw [← HLO.out, ← HHI.out]
  obtain ⟨W1, hW1⟩ : ∃ W1, W1 = (w.alloc (.cells #[.int .i32 lo, .int .i32 hi] 58)).alloc (.cells #[.int .i32 0, .int .i32 55295, .int .i32 57344, .int .i32 1114111] 58) := ⟨_, rfl⟩
  have hR : Rd er W1 (some ⟨w.heap.size + 1, 0, none⟩) parts 2 := by
    subst hW1
    have := Rd.built (enc := er) (w := w.alloc (.cells #[.int .i32 lo, .int .i32 hi] 58)) (E := 58) (cs := #[.int .i32 0, .int .i32 55295, .int .i32 57344, .int .i32 1114111]) parts 2 rfl rfl (by omega)
    simpa using this
  have hbW : Below w.heap.size w W1 := by
    subst hW1
    exact ((Below.refl _ _).alloc (Nat.le_refl _) _).alloc (by simp) _
  have hc0 : W1.cell? ⟨w.heap.size, 0, none⟩ = some (.int .i32 lo) := by subst hW1; simp [go_sem]
  have hc1 : W1.cell? ⟨w.heap.size, 1, none⟩ = some (.int .i32 hi) := by subst hW1; simp [go_sem]
  have hsz : w.heap.size < W1.heap.size := by subst hW1; simp; omega
  rw [← hW1]
  clear hW1
  go_loopg [3, 19] 2 (fun g v i wr => ∃ k : Nat, k ≤ 2 ∧ g = 2 - k ∧ i = .int .i64 k ∧ OwnR W1.heap.size wr v ((parts.take k).flatMap (clip (lo, hi))) ∧ Below w.heap.size w wr ∧ Below W1.heap.size W1 wr)
  case atStart => exact ⟨0, by omega, rfl, rfl, Own.nil _ _ _ _ _, hbW, Below.refl _ _⟩
  case round =>
    obtain ⟨k, hk, rfl, rfl, ho, hb, hb1⟩ := hrel
    have hs := hb.size
    by_cases hlt : k < 2
    · obtain ⟨⟨p0, p1⟩, hx⟩ : ∃ x, parts[k]? = some x := ⟨_, List.getElem?_eq_getElem hlt⟩
      obtain ⟨b2, o2, e2, hbl2, c0, c1⟩ := Rd.pair (hR.kept hb1) hx
      cases e2
      simp only [Nat.zero_add] at c0 c1
      have d0 := (hb1.cell (p := ⟨w.heap.size, 0, none⟩) hsz).trans hc0
      have d1 := (hb1.cell (p := ⟨w.heap.size, 1, none⟩) hsz).trans hc1
      have hsz1 : w.heap.size < wr.heap.size := Nat.lt_of_lt_of_le hsz hb1.size
      have HX := Lib.hid hx
      clear hx
      have hlen := flat_len_le (clip (lo, hi)) 1 (clip_len _) (parts.take k)
      have hl2 : (parts.take k).length ≤ 2 := by simp [parts]; omega
      by_cases hq : max lo p0 ≤ min hi p1
      · go_wp2_with (at_builtin; go_must (refine wpList_app1 elem_rg rfl rfl rfl rfl (by simp) ((ho.alloc _).alloc _) (max lo p0, min hi p1) rfl er_len er_one (by omega) (by omega) (by have := hb1.size; simp; omega) ?_); intro v1 w1 o1 g1)
        go_roundg (2 - (k + 1))
        case measure => omega
        case rel =>
          have hcl : clip (lo, hi) (p0, p1) = [(max lo p0, min hi p1)] := by unfold clip; rw [if_pos hq]
          have ho2 := (ho.alloc (.cells #[.int .i32 p0, .int .i32 p1] 58)).alloc (.cells #[.int .i32 (max lo p0), .int .i32 (min hi p1)] 58)
          have bA := ((Below.refl wr.heap.size wr).alloc (Nat.le_refl _) (.cells #[.int .i32 p0, .int .i32 p1] 58)).alloc (by simp) (.cells #[.int .i32 (max lo p0), .int .i32 (min hi p1)] 58)
          refine ⟨k + 1, by omega, rfl, by go_num, ?_, ?_, ?_⟩
          · rw [take_flat _ HX.out, hcl]
            exact o1
          · exact grow_below (hb.trans (bA.mono hs)) ho2 g1 hbW.size (by simp; omega)
          · exact grow_below (hb1.trans (bA.mono hb1.size)) ho2 g1 (Nat.le_refl _) (by have := hb1.size; simp; omega)
      · go_wp2_with fail
        go_roundg (2 - (k + 1))
        case measure => omega
        case rel =>
          have hcl : clip (lo, hi) (p0, p1) = [] := by unfold clip; rw [if_neg (show ¬ max lo p0 ≤ min hi p1 by omega)]
          have bA := ((Below.refl wr.heap.size wr).alloc (Nat.le_refl _) (.cells #[.int .i32 p0, .int .i32 p1] 58)).alloc (by simp) (.cells #[.int .i32 (max lo p0), .int .i32 (min hi p1)] 58)
          refine ⟨k + 1, by omega, rfl, by go_num, ?_, hb.trans (bA.mono hs), hb1.trans (bA.mono hb1.size)⟩
          rw [take_flat _ HX.out, hcl, List.append_nil]
          exact (ho.alloc _).alloc _
    · obtain rfl : k = 2 := by omega
      go_wp2_with fail
      go_ret
      refine ⟨_, rfl, ?_, hb⟩
      have e : runesF (x, y) = (parts.take 2).flatMap (clip (lo, hi)) := by simp only [runesF, HLO.out, HHI.out]; rfl
      rw [e]
      exact ho.mono hbW.size
end Go.Proofs.YtooockbfagkknaaGreatDoor.cls
/- spoorref7.Has, piece. -/
namespace Go.Proofs.YtooockbfagkknaaGreatDoor.cls
open Go.RowKit Go.Proofs.YtooockbfagkknaaGreatDoor.sl
set_option maxHeartbeats 1000000 in
theorem refHas (a : Option Addr) (l : List Rg) (cap : Nat) (r : Int) (w : World) (h : Rd er w a l cap) :
    Calls Tryz.prog 64 #[.slice a l.length cap, .int .i32 r] w fun e w' => e = .returned (.bool (hasB l r)) ∧ w' = w := by
  have hm := h.max
  have hle := h.le
  unfold maxLen at hm
  have H := Lib.hid h
  clear h
  go_enter Tryz.func64, Tryz.ntmps64
  go_wp2_with fail
  go_loopg [5] l.length (fun g i wr => ∃ k : Nat, k ≤ l.length ∧ g = l.length - k ∧ i = .int .i64 k ∧ hasB l r = hasB (l.drop k) r ∧ wr = w)
  case atStart => exact ⟨0, by omega, rfl, rfl, rfl, rfl⟩
  case round =>
    obtain ⟨k, hk, rfl, rfl, hh, rfl⟩ := hrel
    have HH := Lib.hid hh
    clear hh
    by_cases hlt : k < l.length
    · obtain ⟨x, hx⟩ : ∃ x, l[k]? = some x := ⟨_, List.getElem?_eq_getElem hlt⟩
      obtain ⟨b, off, rfl, hbl, c0, c1⟩ := Rd.pair H.out hx
      have HX := Lib.hid hx
      clear hx
      go_wp2_with fail
      all_goals
        first
          | (go_ret
             refine ⟨?_, rfl⟩
             have e : (decide (x.1 ≤ r) && decide (r ≤ x.2)) = true := by simp; omega
             rw [HH.out, has_step HX.out, e]
             rfl)
          | (go_roundg (l.length - (k + 1))
             case measure => omega
             case rel =>
               refine ⟨k + 1, by omega, rfl, by go_num, ?_, rfl⟩
               have e : (decide (x.1 ≤ r) && decide (r ≤ x.2)) = false := by simp; omega
               rw [HH.out, has_step HX.out, e]
               rfl)
    · obtain rfl : k = l.length := by omega
      go_wp2_with fail
      go_ret
      exact ⟨by rw [HH.out]; simp [hasB], rfl⟩
def pieceF (l : List Rg) (lo hi : Int) : List Rg :=
  match l.getLast? with
  | some r => if r.2 + 1 = lo then l.dropLast ++ [(r.1, hi)] else l ++ [(lo, hi)]
  | none => [(lo, hi)]
theorem own_pair {B : Nat} {w : World} {g n cap : Nat} {l : List Rg} (h : OwnR B w (.slice (some ⟨g, 0, none⟩) n cap) l) (hn : n = l.length) {i : Nat} {x : Rg} (hx : l[i]? = some x) :
    w.cell? ⟨g, i * 2, none⟩ = some (.int .i32 x.1) ∧ w.cell? ⟨g, i * 2 + 1, none⟩ = some (.int .i32 x.2) ∧ w.frozen? ⟨g, i * 2, none⟩ = false ∧ w.frozen? ⟨g, i * 2 + 1, none⟩ = false :=
  ⟨(h.cellAt hn er_len hx (t := 0) (by omega) rfl).1, (h.cellAt hn er_len hx (t := 1) (by omega) rfl).1, (h.cellAt hn er_len hx (t := 0) (by omega) rfl).2, (h.cellAt hn er_len hx (t := 1) (by omega) rfl).2⟩
set_option maxHeartbeats 1000000 in
theorem piece {B : Nat} {w : World} {v : Value} {l : List Rg} (lo hi : Int) (h : OwnR B w v l) (hr : ∀ r ∈ l, -10 ≤ r.2 ∧ r.2 ≤ 1114111) (hl : l.length ≤ 100000000) (hB : B ≤ w.heap.size) :
    Calls Tryz.prog 65 #[v, .int .i32 lo, .int .i32 hi] w fun e w' => ∃ v', e = .returned v' ∧ OwnR B w' v' (pieceF l lo hi) ∧ Below B w w' := by
  rcases List.eq_nil_or_concat l with rfl | ⟨l0, r, rfl⟩
  · obtain ⟨a, cap, rfl, hrd, _⟩ := h.rd
    simp only [List.length_nil] at *
    go_enter Tryz.func65, Tryz.ntmps65
    go_wp2_with (at_builtin; go_must (refine wpList_app1 elem_rg rfl rfl rfl rfl (by simp) h (lo, hi) rfl er_len er_one (by simp) (by omega) hB ?_); intro v1 w1 o1 g1)
    go_ret
    exact ⟨_, rfl, o1, grow_below (Below.refl _ _) h g1 (Nat.le_refl _) hB⟩
  · rw [List.concat_eq_append] at *
    obtain ⟨g, cap, rfl, hBg, hg, hlc, hcm⟩ := h.form (by simp)
    have hx : (l0 ++ [r])[l0.length]? = some r := by simp
    obtain ⟨c0, c1, f0, f1⟩ := own_pair h rfl hx
    have hr' := hr r (by simp)
    simp only [List.length_append, List.length_cons, List.length_nil] at *
    have hpf : pieceF (l0 ++ [r]) lo hi = if r.2 + 1 = lo then l0 ++ [(r.1, hi)] else l0 ++ [r] ++ [(lo, hi)] := by simp [pieceF]
    have HP := Lib.hid hpf
    clear hpf hx hr
    cases hq : (r.2 + 1 == lo)
    · go_enter Tryz.func65, Tryz.ntmps65
      go_wp2_with (at_builtin; go_must (refine wpList_app1 elem_rg rfl rfl rfl rfl (by simp) h (lo, hi) rfl er_len er_one (by simp; omega) (by omega) hB ?_); intro v1 w1 o1 g1)
      go_ret
      refine ⟨_, rfl, ?_, grow_below (Below.refl _ _) h g1 (Nat.le_refl _) hB⟩
      rw [HP.out, if_neg (by simpa using hq)]
      exact o1
    · go_enter Tryz.func65, Tryz.ntmps65
      go_wp2_with fail
      go_ret
      refine ⟨_, rfl, ?_, (Below.refl _ _).setCell hBg _⟩
      rw [HP.out, if_pos (by simpa using hq)]
      have := h.store (t := 1) (y := (r.1, hi)) (by simp) er_len (i := l0.length) (x := r) (by simp) (by omega) (u := .int .i32 hi) rfl
      simpa using this
end Go.Proofs.YtooockbfagkknaaGreatDoor.cls
