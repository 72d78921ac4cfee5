/- copy and make at elements of k cells. -/
import Derived.Test.YtocbpbeklbhjkaaApp
import Derived.Laws.CopyOwn
import Derived.OwnWalk
namespace Go.Proofs.Ytocbpbeklbhjkaa.sl
open Go.RowKit
variable {α : Type} {enc : α → List Value} {k : Nat}
theorem run_copy_rowK {P : Program} (w : World) (dT sT ty elem : TypeId) (g dLen dCap k : Nat) (a : Addr) (sLen sCap : Nat) (cur : Array Value) (t : TypeId) (cs : List Value)
    (hu : P.underlying dT = some (.slice elem)) (hs : (P.info? elem).map (·.size) = some k)
    (hg : w.heap[g]? = some (.cells cur t (0, 0))) (hsd : sLen ≤ dLen) (hn : cs.length = sLen * k)
    (hsrc : ∀ j v, cs[j]? = some v → w.cell? (a.add j) = some v) (hfit : cs.length ≤ cur.size) (h1 : ∀ v ∈ cs, v.oneCell' = true) :
    (Builtin.copy_ #[dT, sT] ty #[.slice (some ⟨g, 0, none⟩) dLen dCap, .slice (some a) sLen sCap]).run P w =
      .ok (goInt sLen) (w.setRow g (cs ++ cur.toList.drop cs.length).toArray) := by
  have hl := run_loadCells_list (P := P) w a cs hsrc
  have hst := run_storeCells_at P g 0 t cs 0 cur w hg (by simpa using hfit) h1
  have hmin : Nat.min sLen dLen = sLen := Nat.min_eq_left hsd
  cases hq : P.info? elem with
  | none => simp [hq] at hs
  | some i =>
    have hi : i.size = k := by simpa [hq] using hs
    simp [Builtin.copy_, run_underlying hu, Builtin.lenOf, Builtin.firstCells, sizeOf, typeInfo, hq, hi, hmin, ← hn, hl, hst]
theorem wpList_copyK {P : Program} {w : World} {ops : Array Oper} {rest : List Oper} {o : Oper} {a : Act} {Q : Exit → Act → World → Prop} {T E : TypeId} {bytes B : Nat} {d s : Operand} {ao : Option Addr} {m c g n cap B0 : Nat} {w0 : World} {l0 l : List α}
    (ET : ElemTy P T E k bytes) (hgd : o.guard = none) (ho : o.op = .call { callee := .builtin .copy, args := #[d, s], argTypes := #[T, T] })
    (hd : a.eval d = .slice (some ⟨g, 0, none⟩) n cap) (hs : a.eval s = .slice ao m c) (hown : Own enc k E B w (.slice (some ⟨g, 0, none⟩) n cap) l0) (hsrc : Rd enc w ao l c) (hm : m = l.length) (hnl : n = l0.length) (hle : l.length ≤ l0.length)
    (hk : ∀ x, (enc x).length = k) (h1 : ∀ x, ∀ u ∈ enc x, u.oneCell' = true) (hb : Below B0 w0 w) (hB0 : B0 ≤ B)
    (h : ∀ w', Own enc k E B w' (.slice (some ⟨g, 0, none⟩) n cap) (l ++ l0.drop l.length) → Below B0 w0 w' → wpList P ops Q rest (a.put o.dst (goInt m)) w') : wpList P ops Q (o :: rest) a w := by
  obtain ⟨hu, ⟨i, z, hi, hz, hsz, hbt, hzc⟩, hp⟩ := ET
  subst hm hnl
  refine wpList_plain hgd fun K hK => ?_
  rcases ao with _ | ⟨b, off, sp⟩
  · obtain ⟨rfl, rfl⟩ := hsrc.none_ rfl
    have hr := run_copy_nil (P := P) w T T o.type E ⟨g, 0, none⟩ l0.length cap hu (by simp [hi])
    unfold Oper.wp execOp
    simp only [ho, resolve, invoke, builtin, Sem.run_bind, Sem.run_pure, Result.andThen_ok, List.map_toArray, List.map_cons, List.map_nil, hd, hs, List.length_nil, hr]
    exact hK _ _ (h w (by simpa using hown) hb)
  · obtain ⟨hsp, hbl, hc⟩ := hsrc.at_ _ rfl
    obtain rfl : sp = none := hsp
    rcases hown.2 with ⟨h2, _⟩ | ⟨g', cap', cur, h2, hB, hg, hnc, hcm, hcs, htake⟩
    · simp at h2
    · simp only [Value.slice.injEq, Option.some.injEq, Addr.mk.injEq, and_true, true_and] at h2
      obtain ⟨rfl, rfl⟩ := h2
      have hfl := flat_len hk l
      have hfl0 := flat_len hk l0
      have hmul : l.length * k ≤ l0.length * k := Nat.mul_le_mul_right _ hle
      have hmul2 : l0.length * k ≤ cap * k := Nat.mul_le_mul_right _ hnc
      have hr := run_copy_rowK (P := P) w T T o.type E g l0.length cap k ⟨b, off, none⟩ l.length c cur E (flat enc l) hu (by simp [hi, hsz]) hg hle hfl
        (fun j v hj => by rw [Addr.add_lit]; exact hc j v hj) (by omega) (fun u hu => by
          obtain ⟨x, _, hx⟩ := List.mem_flatMap.1 hu
          exact h1 x u hx)
      unfold Oper.wp execOp
      simp only [ho, resolve, invoke, builtin, Sem.run_bind, Sem.run_pure, Result.andThen_ok, List.map_toArray, List.map_cons, List.map_nil, hd, hs, hr]
      refine hK _ _ (h _ ⟨?_, .inr ⟨g, cap, _, ?_, hB, setRow_heap w g cur _ E (0, 0) hg, ?_, hcm, ?_, ?_⟩⟩ (below_setRow hb (by omega) _))
      · exact flat_len hk _
      · simp; omega
      · simp; omega
      · simp; omega
      · have e : l.length + (l0.length - l.length) = l0.length := by omega
        simp only [List.length_append, List.length_drop, e]
        rw [List.take_append, hfl, List.take_of_length_le (by omega), flat_append]
        congr 1
        rw [List.take_drop, show l.length * k + (l0.length * k - l.length * k) = l0.length * k by omega, htake]
        have e2 : flat enc l0 = flat enc (l0.take l.length) ++ flat enc (l0.drop l.length) := by rw [← flat_append, List.take_append_drop]
        have e3 : (flat enc (l0.take l.length)).length = l.length * k := by rw [flat_len hk, List.length_take, Nat.min_eq_left hle]
        rw [e2, ← e3, List.drop_left]
theorem made_flat (hk : ∀ x, (enc x).length = k) (hp : 0 < k) (z0 : α) (z : Array Value) (hz : z.toList = enc z0) (n : Nat) : (madeCells z (n * k)).toList = flat enc (List.replicate n z0) := by
  have hzs : z.size = k := by rw [← Array.length_toList, hz, hk]
  apply List.ext_getElem?
  intro j
  rcases Nat.lt_or_ge j (n * k) with hj | hj
  · have hi : j / k < n := Nat.div_lt_of_lt_mul (by rw [Nat.mul_comm]; exact hj)
    have ht : j % k < k := Nat.mod_lt _ hp
    have ej : j = j / k * k + j % k := by rw [Nat.mul_comm]; exact (Nat.div_add_mod j k).symm
    rw [show (flat enc (List.replicate n z0))[j]? = (flat enc (List.replicate n z0))[j / k * k + j % k]? by rw [← ej], flat_get hk _ (j / k) (j % k) z0 (by simp [hi]) ht, ← hz]
    simp only [madeCells, hzs, Array.toList_map, Array.toList_range, List.getElem?_map, List.getElem?_range hj, Option.map_some]
    have ht2 : j % k < z.toList.length := by simpa [hzs] using ht
    rw [List.getElem?_eq_getElem ht2]
    simp [getElem!_def, hzs, ht]
  · rw [List.getElem?_eq_none (by simp [size_madeCells]; omega), List.getElem?_eq_none (by rw [flat_len hk]; simpa using hj)]
theorem wpList_makeK {P : Program} {w : World} {ops : Array Oper} {rest : List Oper} {o : Oper} {a : Act} {Q : Exit → Act → World → Prop} {T E : TypeId} {bytes B : Nat} {lo co : Operand} {kl kc : IntKind} {L C : Int} {n : Nat} {z0 : α} {z : Value}
    (ET : ElemTy P T E k bytes) (hz : (P.info? E).map (·.zero) = some (some z)) (hz0 : z.cells.toList = enc z0) (hgd : o.guard = none) (ho : o.op = .makeSlice T lo co)
    (hl : a.eval lo = .int kl L) (hc : a.eval co = .int kc C) (hL : L = (n : Int)) (hC : C = (n : Int)) (hn : n ≤ 1000000000) (hby : bytes ≤ 65536) (hk : ∀ x, (enc x).length = k) (hB : B ≤ w.heap.size)
    (h : ∀ w', Own enc k E B w' (.slice (some ⟨w.heap.size, 0, none⟩) n n) (List.replicate n z0) → w.grownBy w' none → wpList P ops Q rest (a.put o.dst (.slice (some ⟨w.heap.size, 0, none⟩) n n)) w') : wpList P ops Q (o :: rest) a w := by
  obtain ⟨hu, ⟨i, z', hi, hz', hsz, hbt, hzc⟩, hp⟩ := ET
  rw [hi] at hz
  simp only [Option.map_some, Option.some.injEq] at hz
  rw [hz] at hz'
  cases hz'
  have hmul : n * bytes ≤ 1000000000 * 65536 := Nat.mul_le_mul hn hby
  refine wpList_make_full w hgd lo co T ho B E i z k hu hi hz hsz kl kc L C n hl hc hL hC (by rw [hbt, Nat.mul_comm]; omega) (by unfold maxLen; omega) hB ?_
  intro w' h2 h3
  refine h w' ?_ h3
  rw [made_flat hk hp z0 z.cells hz0] at h2
  unfold Own
  simpa using h2
end Go.Proofs.Ytocbpbeklbhjkaa.sl
