/- A slice of ranges that came in, opened. -/
import Derived.Test.YtocbpbeklbhjkaaHas
import Derived.ProofKit
import Derived.OpenShut
import Derived.Deep.Slices
namespace Go.Proofs.Ytocbpbeklbhjkaa.cls
open Go.ChangeShapes Go.WideShapes Go.ChangeAt Go.RowKit Go.Proofs.Ytocbpbeklbhjkaa.sl
theorem cells_rg : Try.prog.cellsOf 25 = 2 := by kernel_rfl
theorem cells_i32 : Try.prog.cellsOf 21 = 1 := by kernel_rfl
theorem und_rg2 : ∃ f0 f1, Try.prog.underlying 25 = some (.struct #[f0, f1]) ∧ f0.type = 21 ∧ f0.offset = 0 ∧ f1.type = 21 ∧ f1.offset = 1 := by
  refine ⟨(Try.prog.fieldsOf 25)[0]!, (Try.prog.fieldsOf 25)[1]!, by kernel_rfl, by kernel_rfl, by kernel_rfl, by kernel_rfl, by kernel_rfl⟩
theorem at_add (b off i : Nat) : (⟨b, off, none⟩ : Addr).add i = ⟨b, off + i, none⟩ := by
  unfold Addr.add
  split
  · rename_i h; subst h; rfl
  · rfl
theorem open_rg {H : Type} {enc : TypeId × Value → H} {W : World} {base n : Nat} {spare : Nat → Bool} {held : Bool} {cs : List Value} {x : DataW H × List MemPlace}
    (h : DataW.trod enc Try.prog W base spare held n 25 cs = some x) : ∃ r : Rg, cs = er r := by
  obtain ⟨f0, f1, hu, t0, o0, t1, o1⟩ := und_rg2
  obtain ⟨y0, y1, m, _, hl, h0, h1⟩ := trod_struct2 hu h
  rw [cells_rg] at hl
  rw [t0, o0, cells_i32] at h0
  rw [t1, o1, cells_i32] at h1
  obtain ⟨n0, e0, _, _⟩ := DataW.trod_int Try.underlying21 h0
  obtain ⟨n1, e1, _, _⟩ := DataW.trod_int Try.underlying21 h1
  match cs, hl with
  | [a, b], _ =>
    simp at e0 e1
    subst e0 e1
    exact ⟨(n0, n1), rfl⟩
theorem open_ranges {H : Type} {enc : TypeId × Value → H} {W : World} {base : Nat} {v : Value} {d : DataW H} {p : List MemPlace} (hv : Value.okWide Try.prog W .any base 22 v)
    (h : DataW.Trod enc Try.prog W 0 (fun _ => true) true 22 v d p) :
    ∃ (a : Option Addr) (l : List Rg) (cap : Nat), v = .slice a l.length cap ∧ Rd er W a l cap := by
  have hu := Try.underlying22
  obtain ⟨a0, len, cap, rfl⟩ := okWide_slice hu hv
  obtain ⟨fuel, hf⟩ := h
  rcases Go.Deep.open_slice hu hf with ⟨hcs, _⟩ | ⟨a, len', cap', m, n, D, Pl, hcs, _, hl, hm, hmm, _, hx⟩
  · simp only [Value.cells, Array.toList, List.cons.injEq, Value.slice.injEq, and_true] at hcs
    obtain ⟨rfl, rfl, rfl⟩ := hcs
    exact ⟨none, [], 0, rfl, Rd.nil er W⟩
  · simp only [Value.cells, Array.toList, List.cons.injEq, Value.slice.injEq, and_true] at hcs
    obtain ⟨rfl, rfl, rfl⟩ := hcs
    simp only [if_true] at hmm
    subst hmm
    simp only [Value.okWide, hu, Cell.okWide, Cell.ok] at hv
    obtain ⟨_, _, _, hspot, row, cells, hsh, _⟩ := hv
    obtain ⟨b, off, sp⟩ := a
    obtain rfl : sp = none := hspot
    have hb : b < W.heap.size := by
      rcases Nat.lt_or_ge b W.heap.size with h | h
      · exact h
      · simp [World.shape?, Array.getElem?_eq_none h] at hsh
    have hr : ∀ i, i < m → ∃ r : Rg, W.cells? 0 ((⟨b, off, none⟩ : Addr).add (i * 2)) 2 = some (er r) := fun i hi => by
      obtain ⟨cs', h1, h2⟩ := hx i hi
      rw [cells_rg] at h1
      obtain ⟨r, rfl⟩ := open_rg h2
      exact ⟨r, h1⟩
    obtain ⟨f, hf⟩ := Go.Deep.choose_lt hr
    refine ⟨some ⟨b, off, none⟩, (List.range len).map f, m, by simp, fun e => (nomatch e), by simpa using hl, hm, fun ad e => ?_⟩
    cases e
    refine ⟨rfl, hb, fun j u hj => ?_⟩
    have hj2 : j < len * 2 := by
      have := lt_of_some hj
      rw [flat_len er_len] at this
      simpa using this
    have hi : j / 2 < len := by omega
    have ht : j % 2 < 2 := by omega
    have ej : j = j / 2 * 2 + j % 2 := by omega
    rw [ej, flat_get er_len _ (j / 2) (j % 2) (f (j / 2)) (by simp [hi]) ht] at hj
    have hc := hf (j / 2) (by omega)
    have e2 : List.range 2 = [0, 1] := rfl
    simp only [World.cells?, Nat.zero_le, if_true, e2, List.mapM_cons, List.mapM_nil, at_add] at hc
    show W.cell? ⟨b, off + j, none⟩ = some u
    rw [ej, ← Nat.add_assoc]
    rcases h0 : W.cell? ⟨b, off + j / 2 * 2 + 0, none⟩ with _ | u0 <;> rw [h0] at hc <;> simp at hc
    rcases h1 : W.cell? ⟨b, off + j / 2 * 2 + 1, none⟩ with _ | u1 <;> rw [h1] at hc <;> simp at hc
    simp only [er, List.cons.injEq, and_true] at hc
    obtain ⟨rfl, rfl⟩ := hc
    rcases (by omega : j % 2 = 0 ∨ j % 2 = 1) with h | h <;> rw [h] at hj ⊢ <;> simp [er] at hj <;> subst hj
    · exact h0
    · exact h1
end Go.Proofs.Ytocbpbeklbhjkaa.cls
