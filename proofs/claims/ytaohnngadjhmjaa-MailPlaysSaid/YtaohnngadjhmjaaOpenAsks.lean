/- What MailPlays is given, opened: three rooms, and a list of calls. -/
import Derived.Test.YtaohnngadjhmjaaPlays
import Derived.ProofKit
import Derived.OpenShut
import Derived.Deep.Slices
import Derived.Deep.Strs
import Derived.Laws.IdiomArrays
namespace Go.Proofs.Ytaohnngadjhmjaa.play
open Go.ChangeShapes Go.WideShapes Go.ChangeAt Go.RowKit Go.Proofs.Ytaohnngadjhmjaa.sl
instance : Inhabited Ask := ⟨⟨0, 0, 0⟩⟩
theorem cells_ask : Try.prog.cellsOf 54 = 3 := by kernel_rfl
theorem cells_i : Try.prog.cellsOf 3 = 1 := by kernel_rfl
theorem cells_a3 : Try.prog.cellsOf 47 = 3 := by kernel_rfl
theorem und_ask : ∃ f0 f1 f2, Try.prog.underlying 54 = some (.struct #[f0, f1, f2]) ∧ f0.type = 3 ∧ f0.offset = 0 ∧ f1.type = 3 ∧ f1.offset = 1 ∧ f2.type = 3 ∧ f2.offset = 2 := by
  refine ⟨(Try.prog.fieldsOf 54)[0]!, (Try.prog.fieldsOf 54)[1]!, (Try.prog.fieldsOf 54)[2]!, by kernel_rfl, by kernel_rfl, by kernel_rfl, by kernel_rfl, by kernel_rfl, by kernel_rfl, by kernel_rfl⟩
theorem at_add (b off i : Nat) : (⟨b, off, none⟩ : Addr).add i = ⟨b, off + i, none⟩ := by
  unfold Addr.add
  split
  · rename_i h; subst h; rfl
  · rfl
theorem open_ask {H : Type} {enc : TypeId × Value → H} {W : World} {base n : Nat} {spare : Nat → Bool} {held : Bool} {cs : List Value} {x : DataW H × List MemPlace}
    (h : DataW.trod enc Try.prog W base spare held n 54 cs = some x) : ∃ r : Ask, cs = eA r := by
  obtain ⟨f0, f1, f2, hu, t0, o0, t1, o1, t2, o2⟩ := und_ask
  obtain ⟨y0, y1, y2, m, _, hl, h0, h1, h2⟩ := Go.Deep.trod_struct3 hu h
  rw [cells_ask] at hl
  rw [t0, o0, cells_i] at h0
  rw [t1, o1, cells_i] at h1
  rw [t2, o2, cells_i] at h2
  obtain ⟨n0, e0, _, _⟩ := DataW.trod_int Try.underlying3 h0
  obtain ⟨n1, e1, _, _⟩ := DataW.trod_int Try.underlying3 h1
  obtain ⟨n2, e2, _, _⟩ := DataW.trod_int Try.underlying3 h2
  match cs, hl with
  | [a, b, c], _ =>
    simp at e0 e1 e2
    subst e0 e1 e2
    exact ⟨⟨n0, n1, n2⟩, rfl⟩
theorem open_asks {H : Type} {enc : TypeId × Value → H} {W : World} {base : Nat} {v : Value} {d : DataW H} {p : List MemPlace} (hv : Value.okWide Try.prog W .any base 48 v)
    (h : DataW.Trod enc Try.prog W 0 (fun _ => true) true 48 v d p) :
    ∃ (a : Option Addr) (l : List Ask) (cap : Nat), v = .slice a l.length cap ∧ Rd eA W a l cap := by
  have hu := Try.underlying48
  obtain ⟨a0, len, cap, rfl⟩ := okWide_slice hu hv
  obtain ⟨fuel, hf⟩ := h
  rcases Go.Deep.open_slice hu hf with ⟨hcs, _⟩ | ⟨a, len', cap', m, n, D, Pl, hcs, _, hl, hm, hmm, _, hx⟩
  · simp only [Value.cells, Array.toList, List.cons.injEq, Value.slice.injEq, and_true] at hcs
    obtain ⟨rfl, rfl, rfl⟩ := hcs
    exact ⟨none, [], 0, rfl, Rd.nil eA W⟩
  · simp only [Value.cells, Array.toList, List.cons.injEq, Value.slice.injEq, and_true] at hcs
    obtain ⟨rfl, rfl, rfl⟩ := hcs
    simp only [if_true] at hmm
    subst hmm
    simp only [Value.okWide, hu, Cell.okWide, Cell.ok] at hv
    obtain ⟨_, _, _, hspot, row, cells, hsh, _⟩ := hv
    obtain ⟨b, off, sp⟩ := a
    obtain rfl : sp = none := hspot
    have hb : b < W.heap.size := by
      rcases Nat.lt_or_ge b W.heap.size with h | h
      · exact h
      · simp [World.shape?, Array.getElem?_eq_none h] at hsh
    have hr : ∀ i, i < m → ∃ r : Ask, W.cells? 0 ((⟨b, off, none⟩ : Addr).add (i * 3)) 3 = some (eA r) := fun i hi => by
      obtain ⟨cs', h1, h2⟩ := hx i hi
      rw [cells_ask] at h1
      obtain ⟨r, rfl⟩ := open_ask h2
      exact ⟨r, h1⟩
    obtain ⟨f, hf⟩ := Go.Deep.choose_lt hr
    refine ⟨some ⟨b, off, none⟩, (List.range len).map f, m, by simp, fun e => (nomatch e), by simpa using hl, hm, fun ad e => ?_⟩
    cases e
    refine ⟨rfl, hb, fun j u hj => ?_⟩
    have hj2 : j < len * 3 := by
      have := lt_of_some hj
      rw [flat_len eA_len] at this
      simpa using this
    have hi : j / 3 < len := by omega
    have ht : j % 3 < 3 := by omega
    have ej : j = j / 3 * 3 + j % 3 := by omega
    rw [ej, flat_get eA_len _ (j / 3) (j % 3) (f (j / 3)) (by simp [hi]) ht] at hj
    have hc := hf (j / 3) (by omega)
    have e2 : List.range 3 = [0, 1, 2] := rfl
    simp only [World.cells?, Nat.zero_le, if_true, e2, List.mapM_cons, List.mapM_nil, at_add] at hc
    show W.cell? ⟨b, off + j, none⟩ = some u
    rw [ej, ← Nat.add_assoc]
    rcases h0 : W.cell? ⟨b, off + j / 3 * 3 + 0, none⟩ with _ | u0 <;> rw [h0] at hc <;> simp at hc
    rcases h1 : W.cell? ⟨b, off + j / 3 * 3 + 1, none⟩ with _ | u1 <;> rw [h1] at hc <;> simp at hc
    rcases h2 : W.cell? ⟨b, off + j / 3 * 3 + 2, none⟩ with _ | u2 <;> rw [h2] at hc <;> simp at hc
    simp only [eA, List.cons.injEq, and_true] at hc
    obtain ⟨rfl, rfl, rfl⟩ := hc
    rcases (by omega : j % 3 = 0 ∨ j % 3 = 1 ∨ j % 3 = 2) with h | h | h <;> rw [h] at hj ⊢ <;> simp [eA] at hj <;> subst hj
    · exact h0
    · exact h1
    · exact h2
theorem list3 {α : Type} (l : List α) (h : (⟨l⟩ : Array α).size = 3) : ∃ a b c, l = [a, b, c] := by
  match l, h with
  | [a, b, c], _ => exact ⟨a, b, c, rfl⟩
theorem open_rooms {H : Type} {enc : TypeId × Value → H} {W : World} {base : Nat} {v : Value} {d : DataW H} {p : List MemPlace} (hv : Value.okWide Try.prog W .any base 47 v)
    (h : DataW.Trod enc Try.prog W 0 (fun _ => true) true 47 v d p) : ∃ a b c : Int, v = .agg #[.int .i64 a, .int .i64 b, .int .i64 c] := by
  have hu := Try.underlying47
  obtain ⟨cs, rfl, hsz, _⟩ : ∃ cs, v = .agg cs ∧ cs.size = Try.prog.cellsOf 47 ∧ Row.okWide Try.prog W .any base 47 cs := by
    simpa [Value.okWide, hu] using hv
  rw [cells_a3] at hsz
  obtain ⟨l⟩ := cs
  obtain ⟨c0, c1, c2, rfl⟩ := list3 l hsz
  obtain ⟨fuel, hf⟩ := h
  obtain ⟨y0, y1, y2, m, _, hy0, hy1, hy2⟩ := trod_array3 hu cells_i hf
  obtain ⟨n0, e0, _, _⟩ := DataW.trod_int Try.underlying3 hy0
  obtain ⟨n1, e1, _, _⟩ := DataW.trod_int Try.underlying3 hy1
  obtain ⟨n2, e2, _, _⟩ := DataW.trod_int Try.underlying3 hy2
  simp at e0 e1 e2
  subst e0 e1 e2
  exact ⟨n0, n1, n2, rfl⟩
end Go.Proofs.Ytaohnngadjhmjaa.play
