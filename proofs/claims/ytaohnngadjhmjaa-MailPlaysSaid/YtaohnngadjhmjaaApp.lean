/- append on an owned slice, and where what comes lies: in the same block, or in a new one. -/
import Derived.Test.YtaohnngadjhmjaaSl
namespace Go.Proofs.Ytaohnngadjhmjaa.sl
open Go.RowKit
variable {α : Type} {enc : α → List Value} {k : Nat}
/-- The block of v' is that of v, or a new one. -/
def Fresh (w : World) (v v' : Value) : Prop := v'.ownBlock = v.ownBlock ∨ v'.ownBlock = none ∨ ∃ k, v'.ownBlock = some k ∧ w.heap.size ≤ k
theorem run_app {P : Program} (w : World) {T E ty : TypeId} {bytes B : Nat} {v : Value} {b off m c : Nat} {l : List α} (news : List Value)
    (ET : ElemTy P T E k bytes) (hown : Own enc k E B w v l) (hl : news.length = m * k) (hnews : ∀ j u, news[j]? = some u → w.cell? ⟨b, off + j, none⟩ = some u) (h1 : ∀ u ∈ news, u.oneCell' = true)
    (h63 : l.length + m ≤ maxLen) (hbytes : (l.length + m) * bytes ≤ 140737488355328) (hB : B ≤ w.heap.size) :
    ∃ v' w', (Builtin.append_ #[T, T] ty #[v, .slice (some ⟨b, off, none⟩) m c]).run P w = .ok v' w' ∧ w'.ownsRow B E k v' (l.length + m) (flat enc l ++ news) ∧ w.grownBy w' v.ownBlock ∧ Fresh w v v' := by
  obtain ⟨hu, ⟨i, z, hi, hz, hsz, hbt, hzc⟩, hp⟩ := ET
  have hn' : ∀ j u, news[j]? = some u → w.cell? ((⟨b, off, none⟩ : Addr).add j) = some u := fun j u h => by rw [Addr.add_lit]; exact hnews j u h
  obtain ⟨v', w', hr, h2, h3, _⟩ := run_append_own (P := P) w B T ty E i z k bytes hu hi hz hsz hbt hzc hp v l.length _ hown ⟨b, off, none⟩ m c news hl hn' h1 h63 hbytes hB
  refine ⟨v', w', hr, h2, h3, ?_⟩
  rcases hown.2 with ⟨rfl, hn⟩ | ⟨g, cap, cur, rfl, hBg, hg, hnc, hcm, hcs, htake⟩
  · have hl0 : l = [] := List.eq_nil_of_length_eq_zero hn
    subst hl0
    obtain ⟨v2, w2, hr2, k2, _, _⟩ := run_append_own (P := P) w w.heap.size T ty E i z k bytes hu hi hz hsz hbt hzc hp (.slice none 0 0) 0 [] (World.ownsRow_nil _ _ _ _) ⟨b, off, none⟩ m c news hl hn' h1 (by simpa using h63) (by simpa using hbytes) (Nat.le_refl _)
    rw [hr] at hr2
    cases hr2
    rcases k2.2 with ⟨rfl, _⟩ | ⟨g2, cap2, cur2, rfl, hg2, _⟩
    · exact .inr (.inl rfl)
    · exact .inr (.inr ⟨g2, rfl, hg2⟩)
  · by_cases hroom : l.length + m ≤ cap
    · have hfit : l.length * i.size + news.length ≤ cur.size := by rw [hl, hcs, hsz, ← Nat.add_mul]; exact Nat.mul_le_mul_right _ hroom
      have hr2 := run_append_room (P := P) w T ty E i hu hi g l.length cap cur hg ⟨b, off, none⟩ m c news (by rw [hsz]; exact hl) hn' h1 hroom hfit
      rw [hr] at hr2
      cases hr2
      exact .inl rfl
    · have holds : ∀ j u, (flat enc l)[j]? = some u → w.cell? ((⟨g, 0, none⟩ : Addr).add j) = some u := World.ownsRow.cells hown (g := g) rfl
      have hsm : l.length + m ≤ 9223372036854775807 := by simp only [maxLen] at h63; omega
      have hr2 := run_append_grow (P := P) w T ty E i z hu hi hz ⟨g, 0, none⟩ l.length cap (flat enc l) (by rw [hsz]; exact hown.1) holds ⟨b, off, none⟩ m c news (by rw [hsz]; exact hl) hn' (by omega) (by omega) (growslice_fits (by omega) (by rw [hbt]; exact hbytes))
      rw [hr] at hr2
      cases hr2
      exact .inr (.inr ⟨_, rfl, Nat.le_refl _⟩)
theorem wpList_app1F {P : Program} {w : World} {ops : Array Oper} {rest : List Oper} {o : Oper} {a : Act} {Q : Exit → Act → World → Prop} {T E E' : TypeId} {bytes B : Nat} {s x : Operand} {v : Value} {cs : Array Value} {l : List α} {n : Nat}
    (ET : ElemTy P T E k bytes) (hgd : o.guard = none) (ho : o.op = .call { callee := .builtin .append, args := #[s, x], argTypes := #[T, T] })
    (hs : a.eval s = v) (hx : a.eval x = .slice (some ⟨n, 0, none⟩) 1 1) (hn : n = w.heap.size) (hown : Own enc k E B w v l) (y : α) (hy : cs.toList = enc y) (hk : ∀ x, (enc x).length = k) (h1 : ∀ x, ∀ u ∈ enc x, u.oneCell' = true)
    (hmax : l.length < 1000000000) (hby : bytes ≤ 65536) (hB : B ≤ w.heap.size)
    (h : ∀ v' w', Own enc k E B w' v' (l ++ [y]) → (w.alloc (.cells cs E')).grownBy w' v.ownBlock → Fresh w v v' → wpList P ops Q rest (a.put o.dst v') w') : wpList P ops Q (o :: rest) a (w.alloc (.cells cs E')) := by
  subst hn
  have hmul : (l.length + 1) * bytes ≤ 1000000000 * 65536 := Nat.mul_le_mul (by omega) hby
  have hrd := Rd.built (w := w) (E := E') (cs := cs) (enc := enc) [y] 1 rfl (by simp [hy, flat]) (by omega)
  obtain ⟨_, _, hc⟩ := hrd.at_ _ rfl
  obtain ⟨v', w', hr, h2, h3, h4⟩ := run_app (P := P) (ty := o.type) (m := 1) (c := 1) (w.alloc (.cells cs E')) (flat enc [y]) ET (hown.alloc _) (by rw [flat_len hk]; rfl) hc (fun u hu => by
    obtain ⟨z, _, hz⟩ := List.mem_flatMap.1 hu
    exact h1 z u hz) (by unfold maxLen; omega) (by omega) (by simp; omega)
  refine wpList_plain hgd fun K hK => ?_
  unfold Oper.wp execOp
  simp only [ho, resolve, invoke, builtin, Sem.run_bind, Sem.run_pure, Result.andThen_ok, List.map_toArray, List.map_cons, List.map_nil, hs, hx, hr]
  refine hK _ _ (h v' w' ?_ h3 ?_)
  · unfold Own
    rw [flat_append, List.length_append]
    exact h2
  · rcases h4 with h4 | h4 | ⟨j, h4, h5⟩
    · exact .inl h4
    · exact .inr (.inl h4)
    · exact .inr (.inr ⟨j, h4, by simp at h5; omega⟩)
/-- Two owned slices in different blocks. -/
def Apart (v u : Value) : Prop := ∀ k, v.ownBlock = some k → u.ownBlock ≠ some k
theorem Own.keep {w w' : World} {E : TypeId} {B : Nat} {v u : Value} {l : List α} (h : Own enc k E B w v l) (hg : w.grownBy w' u.ownBlock) (ha : Apart v u) : Own enc k E B w' v l := by
  refine World.ownsRow.kept h hg ?_
  rcases hv : v.ownBlock with _ | j
  · exact .inl rfl
  · refine .inr fun e => ha j hv e.symm
theorem Apart.fresh {w : World} {E : TypeId} {B : Nat} {v u u' : Value} {l : List α} (ha : Apart v u) (h : Own enc k E B w v l) (hf : Fresh w u u') : Apart v u' := by
  intro j hj e
  rcases hf with hf | hf | ⟨k2, hf, hk2⟩
  · exact ha j hj (hf ▸ e)
  · rw [hf] at e; cases e
  · have := (h.lt j hj).2
    rw [hf] at e
    cases e
    omega
end Go.Proofs.Ytaohnngadjhmjaa.sl
