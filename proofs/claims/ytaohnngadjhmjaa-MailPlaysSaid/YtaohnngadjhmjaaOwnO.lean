/- A slice of integers that the function itself grows at its end and cuts at its beginning. -/
import Derived.Test.YtaohnngadjhmjaaApp
namespace Go.Proofs.Ytaohnngadjhmjaa.play
open Go.RowKit Go.Proofs.Ytaohnngadjhmjaa.sl
def ev (y : Int) : List Value := [.int .i64 y]
theorem ev_len (y : Int) : (ev y).length = 1 := rfl
/-- The value v reads as the list l, in a block from B on; or it is nil. -/
def OwnO (E : TypeId) (B : Nat) (w : World) (v : Value) (l : List Int) : Prop :=
  (v = .slice none 0 0 ∧ l = []) ∨ ∃ g off cap cur, v = .slice (some ⟨g, off, none⟩) l.length cap ∧ B ≤ g ∧ w.heap[g]? = some (.cells cur E (0, 0)) ∧ l.length ≤ cap ∧ cap ≤ maxLen ∧ off + cap ≤ cur.size ∧
    ∀ (j : Nat) y, l[j]? = some y → cur[off + j]? = some (.int .i64 y)
variable {E : TypeId} {B : Nat} {w w' : World} {v : Value} {l : List Int}
theorem OwnO.keep (h : OwnO E B w v l) (hk : ∀ g, v.ownBlock = some g → w'.heap[g]? = w.heap[g]?) : OwnO E B w' v l := by
  rcases h with h | ⟨g, off, cap, cur, rfl, hB, hg, h⟩
  · exact .inl h
  · exact .inr ⟨g, off, cap, cur, rfl, hB, (hk g rfl).trans hg, h⟩
theorem OwnO.lt (h : OwnO E B w v l) : ∀ g, v.ownBlock = some g → B ≤ g ∧ g < w.heap.size ∧ ∃ cur, w.heap[g]? = some (.cells cur E (0, 0)) := by
  intro k hk
  rcases h with ⟨rfl, _⟩ | ⟨g, off, cap, cur, rfl, hB, hg, h⟩
  · cases hk
  · cases hk
    exact ⟨hB, heap_lt hg, cur, hg⟩
theorem OwnO.len (h : OwnO E B w v l) : ∃ a cap, v = .slice a l.length cap ∧ l.length ≤ cap ∧ cap ≤ maxLen := by
  rcases h with ⟨rfl, rfl⟩ | ⟨g, off, cap, cur, rfl, hB, hg, h1, h2, _⟩
  · exact ⟨none, 0, rfl, by simp, by simp [maxLen]⟩
  · exact ⟨_, cap, rfl, h1, h2⟩
theorem OwnO.head {y : Int} (h : OwnO E B w v (y :: l)) : ∃ g off cap, v = .slice (some ⟨g, off, none⟩) (l.length + 1) cap ∧ B ≤ g ∧ l.length + 1 ≤ cap ∧ cap ≤ maxLen ∧ w.cell? ⟨g, off, none⟩ = some (.int .i64 y) ∧
    ∀ a, (a = if cap = 1 then (⟨g, off, none⟩ : Addr) else ⟨g, off + 1, none⟩) → OwnO E B w (.slice (some a) l.length (cap - 1)) l := by
  rcases h with ⟨_, h⟩ | ⟨g, off, cap, cur, rfl, hB, hg, h1, h2, h3, h4⟩
  · cases h
  · simp only [List.length_cons] at h1 ⊢
    refine ⟨g, off, cap, rfl, hB, h1, h2, ?_, fun a ha => ?_⟩
    · have := h4 0 y rfl
      simp only [World.cell?, hg]
      simpa using this
    · by_cases hc : cap = 1
      · rw [if_pos hc] at ha
        subst ha
        have : l = [] := List.eq_nil_of_length_eq_zero (by omega)
        subst this
        exact .inr ⟨g, off, cap - 1, cur, rfl, hB, hg, by simp, by omega, by omega, fun j y hj => by simp at hj⟩
      · rw [if_neg hc] at ha
        subst ha
        exact .inr ⟨g, off + 1, cap - 1, cur, rfl, hB, hg, by omega, by omega, by omega, fun j y hj => by have := h4 (j + 1) y (by simpa using hj); rw [show off + 1 + j = off + (j + 1) by omega]; exact this⟩
theorem OwnO.of_own (h : w.ownsRow B E 1 v l.length (flat ev l)) : OwnO E B w v l := by
  rcases h.2 with ⟨rfl, hn⟩ | ⟨g, cap, cur, rfl, hB, hg, hnc, hcm, hcs, ht⟩
  · exact .inl ⟨rfl, List.eq_nil_of_length_eq_zero hn⟩
  · refine .inr ⟨g, 0, cap, cur, rfl, hB, hg, hnc, hcm, by omega, fun j y hj => ?_⟩
    have hl := lt_of_some hj
    have := flat_get (enc := ev) ev_len l j 0 y hj (by omega)
    rw [← ht, List.getElem?_take] at this
    simp only [Nat.mul_one, Nat.add_zero, hl, if_true] at this
    rw [Nat.zero_add, ← Array.getElem?_toList]
    exact this
theorem run_append_roomO {P : Program} (w : World) (t ty e : TypeId) (i : TypeInfo) (ht : P.underlying t = some (.slice e)) (hi : P.info? e = some i)
    (g off sLen sCap : Nat) (cur : Array Value) (hg : w.heap[g]? = some (.cells cur e (0, 0)))
    (a : Addr) (m c : Nat) (news : List Value) (hl : news.length = m * i.size) (hnews : ∀ j u, news[j]? = some u → w.cell? (a.add j) = some u) (h1 : ∀ u ∈ news, u.oneCell' = true)
    (hroom : sLen + m ≤ sCap) (hfit : off + sLen * i.size + news.length ≤ cur.size) :
    (Builtin.append_ #[t, t] ty #[.slice (some ⟨g, off, none⟩) sLen sCap, .slice (some a) m c]).run P w =
      .ok (.slice (some ⟨g, off, none⟩) (sLen + m) sCap) (w.setRow g (cur.toList.take (off + sLen * i.size) ++ news ++ cur.toList.drop (off + sLen * i.size + news.length)).toArray) := by
  have hf := run_firstCells_some (P := P) w i.size m a m c news hl hnews
  have hst := run_storeCells_at P g (off + sLen * i.size) e news 0 cur w hg (by simpa using hfit) h1
  simp only [Nat.add_zero] at hst
  simp [Builtin.append_, run_underlying ht, sizeOf, typeInfo, hi, Builtin.lenOf, hroom, hf, Addr.add_lit, hst]
theorem run_appO {P : Program} (w : World) {T E ty : TypeId} {bytes B : Nat} {v : Value} {l : List Int} (ET : ElemTy P T E 1 bytes) (h : OwnO E B w v l) (n : Nat) (y : Int) (hn : w.cell? ⟨n, 0, none⟩ = some (.int .i64 y))
    (hmax : l.length ≤ 1000000) (hby : bytes ≤ 65536) (hB : B ≤ w.heap.size) :
    ∃ v' w', (Builtin.append_ #[T, T] ty #[v, .slice (some ⟨n, 0, none⟩) 1 1]).run P w = .ok v' w' ∧ OwnO E B w' v' (l ++ [y]) ∧ w.grownBy w' v.ownBlock ∧ Fresh w v v' := by
  obtain ⟨hu, ⟨i, z, hi, hz, hsz, hbt, hzc⟩, hp⟩ := ET
  have hmul : (l.length + 1) * bytes ≤ 1000001 * 65536 := Nat.mul_le_mul (by omega) hby
  have hnews : ∀ (j : Nat) u, [Value.int .i64 y][j]? = some u → w.cell? ((⟨n, 0, none⟩ : Addr).add j) = some u := fun j u hj => by
    rcases j with _ | j
    · simp at hj; subst hj; simpa [Addr.add] using hn
    · simp at hj
  have h1 : ∀ u ∈ [Value.int .i64 y], u.oneCell' = true := fun u hu => by simp at hu; subst hu; rfl
  rcases h with ⟨rfl, rfl⟩ | ⟨g, off, cap, cur, rfl, hBg, hg, hc1, hc2, hc3, hc4⟩
  · obtain ⟨v', w', hr, k1, k2, _⟩ := run_append_own (P := P) w B T ty E i z 1 bytes hu hi hz hsz hbt hzc hp (.slice none 0 0) 0 [] (World.ownsRow_nil _ _ _ _) ⟨n, 0, none⟩ 1 1 [.int .i64 y] rfl hnews h1 (by simp [maxLen]) (by simp at hmul ⊢; omega) hB
    obtain ⟨v2, w2, hr2, q2, _, _⟩ := run_append_own (P := P) w w.heap.size T ty E i z 1 bytes hu hi hz hsz hbt hzc hp (.slice none 0 0) 0 [] (World.ownsRow_nil _ _ _ _) ⟨n, 0, none⟩ 1 1 [.int .i64 y] rfl hnews h1 (by simp [maxLen]) (by simp at hmul ⊢; omega) (Nat.le_refl _)
    rw [hr] at hr2
    cases hr2
    refine ⟨v', w', hr, OwnO.of_own (by simpa [flat, ev] using k1), k2, ?_⟩
    rcases q2.2 with ⟨rfl, _⟩ | ⟨g2, cap2, cur2, rfl, hg2, _⟩
    · exact .inr (.inl rfl)
    · exact .inr (.inr ⟨g2, rfl, hg2⟩)
  · by_cases hroom : l.length + 1 ≤ cap
    · have hr := run_append_roomO (P := P) w T ty E i hu hi g off l.length cap cur hg ⟨n, 0, none⟩ 1 1 [.int .i64 y] (by rw [hsz]; rfl) hnews h1 hroom (by rw [hsz]; simp; omega)
      rw [hsz, Nat.mul_one] at hr
      refine ⟨_, _, hr, .inr ⟨g, off, cap, _, by simp, hBg, setRow_heap w g cur _ E (0, 0) hg, by simpa using hroom, hc2, by simp; omega, fun j u hj => ?_⟩, ⟨rfl, rfl, rfl, by simp [World.setRow], fun k _ hk => setRow_other w g k _ (fun e => hk (by simp [Value.ownBlock, e]))⟩, .inl rfl⟩
      have hjl := lt_of_some hj
      simp at hjl
      rw [← Array.getElem?_toList]
      simp only [List.append_assoc]
      rcases Nat.lt_or_ge j l.length with h | h
      · rw [List.getElem?_append_left (by simp; omega), List.getElem?_take_of_lt (by omega), Array.getElem?_toList]
        rw [List.getElem?_append_left h] at hj
        exact hc4 j u hj
      · obtain rfl : j = l.length := by omega
        have e : (cur.toList.take (off + l.length)).length = off + l.length := by simp; omega
        rw [List.getElem?_append_right (by omega), e, Nat.sub_self]
        rw [List.getElem?_append_right (Nat.le_refl _), Nat.sub_self] at hj
        simpa using hj
    · have hol : (flat ev l).length = l.length * i.size := by rw [flat_len ev_len, hsz]
      have holds : ∀ j u, (flat ev l)[j]? = some u → w.cell? ((⟨g, off, none⟩ : Addr).add j) = some u := fun j u hj => by
        have hjl := lt_of_some hj
        rw [flat_len ev_len, Nat.mul_one] at hjl
        have hx : l[j]? = some (l.getD j 0) := getD_eq hjl 0
        have := flat_get (enc := ev) ev_len l j 0 _ hx (by omega)
        simp only [Nat.mul_one, Nat.add_zero] at this
        rw [this] at hj
        simp [ev] at hj
        subst hj
        rw [Addr.add_lit]
        simp only [World.cell?, hg]
        simpa using hc4 j _ hx
      have hr := run_append_grow (P := P) w T ty E i z hu hi hz ⟨g, off, none⟩ l.length cap (flat ev l) hol holds ⟨n, 0, none⟩ 1 1 [.int .i64 y] (by rw [hsz]; rfl) hnews (by omega) (by omega) (growslice_fits (by omega) (by rw [hbt]; omega))
      have hge := grownCap_ge w (l.length + 1) cap E
      have hcm : grownCap w (l.length + 1) cap E ≤ maxLen := grownCap_le_maxLen w (l.length + 1) cap E (by unfold maxLen; omega)
      refine ⟨_, _, hr, .inr ⟨w.heap.size, 0, _, _, by simp, hB, heap_alloc_new w.drew _, by simpa using hge, hcm, ?_, fun j u hj => ?_⟩, ⟨rfl, rfl, rfl, by simp, fun k hk _ => heap_alloc_old w.drew _ hk⟩, .inr (.inr ⟨_, rfl, Nat.le_refl _⟩)⟩
      · simp only [Array.size_append, List.size_toArray, size_zeroCells, hzc, flat_len ev_len, List.length_singleton]
        omega
      · have hjl := lt_of_some hj
        simp only [List.length_append, List.length_singleton] at hjl
        have hfl : (flat ev l).length = l.length := by rw [flat_len ev_len, Nat.mul_one]
        rw [Nat.zero_add, ← Array.getElem?_toList]
        simp only [Array.toList_append, List.append_assoc]
        rcases Nat.lt_or_ge j l.length with h | h
        · rw [List.getElem?_append_left (by rw [hfl]; exact h)]
          rw [List.getElem?_append_left h] at hj
          have := flat_get (enc := ev) ev_len l j 0 u hj (by omega)
          simpa [ev] using this
        · obtain rfl : j = l.length := by omega
          rw [List.getElem?_append_right (by rw [hfl]; exact h), hfl, Nat.sub_self]
          rw [List.getElem?_append_right (Nat.le_refl _), Nat.sub_self] at hj
          simpa using hj
end Go.Proofs.Ytaohnngadjhmjaa.play
