/- An integer slice that came in, opened. -/
import Derived.Test.YtaohnngadjhmjaaOrder
import Derived.ProofKit
import Derived.OpenShut
namespace Go.Proofs.Ytaohnngadjhmjaa.mail
open Go.ChangeShapes Go.WideShapes Go.ChangeAt Go.RowKit
theorem cells_int : Try.prog.cellsOf 3 = 1 := by kernel_rfl
theorem bounds_of_wf {n : Int} (h : (Lit.int .i64 n).wf = true) : -9223372036854775808 ≤ n ∧ n ≤ 9223372036854775807 := by
  simp only [Lit.wf, Bool.and_eq_true, decide_eq_true_eq] at h
  exact h
theorem open_slice_int {H : Type} {enc : TypeId × Value → H} {W : World} {base : Nat} {v : Value} {d : DataW H} {p : List MemPlace} (hv : Value.okWide Try.prog W .any base 37 v)
    (h : DataW.Trod enc Try.prog W 0 (fun _ => true) true 37 v d p) :
    ∃ (a : Option Addr) (l : List Int) (cap : Nat), v = .slice a l.length cap ∧ l.length ≤ maxLen ∧ IntsAt W.heap.size W a l := by
  obtain ⟨a0, len, cap, rfl⟩ := okWide_slice Try.underlying37 hv
  obtain ⟨fuel, hf⟩ := h
  rcases open_ints Try.underlying37 Try.underlying3 cells_int hf with ⟨hcs, hx⟩ | ⟨a, len', cap', zs, hcs, _, hl, hm, hz, hx, hcell, hwz⟩
  · simp only [Value.cells, Array.toList, List.cons.injEq, Value.slice.injEq, and_true] at hcs
    obtain ⟨rfl, rfl, rfl⟩ := hcs
    exact ⟨none, [], 0, rfl, by simp [maxLen], fun i hi => by simp at hi⟩
  · simp only [Value.cells, Array.toList, List.cons.injEq, Value.slice.injEq, and_true] at hcs
    obtain ⟨rfl, rfl, rfl⟩ := hcs
    simp only [if_true] at hz
    have hlen : (zs.take len).length = len := by simp; omega
    refine ⟨some a, zs.take len, cap, by rw [hlen], by rw [hlen]; omega, fun i hi => ?_⟩
    rw [hlen] at hi
    have hg : (zs.take len).getD i 0 = zs.getD i 0 := by simp [List.getD_eq_getElem?_getD, List.getElem?_take, hi]
    have hc := hcell i (by omega)
    obtain ⟨blk, off, sp⟩ := a
    have hsp : sp = none := by
      rcases sp with _ | s
      · rfl
      · have h0 := hcell 0 (by omega)
        simp only [Addr.add, if_true, World.cell?] at h0
        split at h0 <;> simp at h0
    subst hsp
    have e : (⟨blk, off, none⟩ : Addr).add i = ⟨blk, off + i, none⟩ := by
      unfold Addr.add
      split
      · rename_i h; subst h; rfl
      · rfl
    rw [e] at hc
    refine ⟨blk, off, rfl, ?_, by rw [hg]; exact hc, ?_⟩
    · rcases Nat.lt_or_ge blk W.heap.size with h | h
      · exact h
      · have : W.heap[blk]? = none := Array.getElem?_eq_none h
        simp [World.cell?, this] at hc
    · rw [hg]
      have hmem : zs.getD i 0 ∈ zs := by
        rw [List.getD_eq_getElem?_getD, List.getElem?_eq_getElem (by omega)]
        exact List.getElem_mem _
      exact bounds_of_wf (hwz _ hmem)
end Go.Proofs.Ytaohnngadjhmjaa.mail
