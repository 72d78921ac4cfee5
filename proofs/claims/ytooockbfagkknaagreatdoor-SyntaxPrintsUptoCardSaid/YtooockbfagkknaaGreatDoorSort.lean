/- slices.SortFunc at the ranges, of a slice that is owned. -/
import Derived.Test.YtooockbfagkknaaGreatDoorBase
import Derived.Test.YtooockbfagkknaaGreatDoorShelf
import Derived.Shelf.SlSortCmp.NoneTotal
namespace Go.Proofs.YtooockbfagkknaaGreatDoor.cls
open Go.RowKit Go.Proofs.YtooockbfagkknaaGreatDoor.sl Go.Shelf
open Go.Sort (Holds HoldsK flatK get_flatK size_flatK putRow putRowK putCells SWO mapBlock onCells PermIn SortedIn alloc_eq_grow grow_grow grow)
structure RgV where
  r : Rg
  lo : 0 ≤ r.1 ∧ r.1 ≤ 1114111
instance : Inhabited RgV := ⟨⟨(0, 0), by decide⟩⟩
def ev (r : RgV) : List Value := er r.r
def cf (x y : RgV) : Int := x.r.1 - y.r.1
theorem lift_rg : ∀ (l : List Rg), (∀ r ∈ l, 0 ≤ r.1 ∧ r.1 ≤ 1114111) → ∃ lv : List RgV, lv.map RgV.r = l
  | [], _ => ⟨[], rfl⟩
  | r :: t, h => by
    obtain ⟨tv, ht⟩ := lift_rg t (fun x hx => h x (by simp [hx]))
    exact ⟨⟨r, h r (by simp)⟩ :: tv, by simp [ht]⟩
theorem flat_ev (lv : List RgV) : flat er (lv.map RgV.r) = flat ev lv := by
  rw [flat, flat, List.flatMap_map]
  rfl
theorem ev_len (r : RgV) : (ev r).length = 2 := rfl
theorem flatK_list (d : Array RgV) : (flatK ev 2 d).toList = flat ev d.toList := by
  apply List.ext_getElem?
  intro t
  by_cases ht : t < d.size * 2
  · have h1 : (flatK ev 2 d)[t]! = (ev d[t / 2]!)[t % 2]! := get_flatK ev 2 d t ht
    have h2 : t < (flatK ev 2 d).size := by simpa using ht
    have hd : t / 2 < d.size := by omega
    have e : d.toList[t / 2]? = some d[t / 2]! := by
      rw [Array.getElem?_toList, Array.getElem?_eq_getElem hd, getElem!_pos d (t / 2) hd]
    have h3 := flat_get ev_len d.toList (t / 2) (t % 2) _ e (by omega)
    rw [show t / 2 * 2 + t % 2 = t by omega] at h3
    rw [h3, Array.getElem?_toList, Array.getElem?_eq_getElem h2]
    rw [getElem!_pos (flatK ev 2 d) t h2] at h1
    rw [h1]
    have h4 : t % 2 < (ev d[t / 2]!).length := by rw [ev_len]; omega
    rw [List.getElem?_eq_getElem h4, getElem!_pos (ev d[t / 2]!) (t % 2) h4]
  · rw [List.getElem?_eq_none (by simp; omega), List.getElem?_eq_none (by rw [flat_len ev_len]; simp; omega)]
theorem ltOf_cf (x y : RgV) : ltOf cf x y = decide (x.r.1 < y.r.1) := by
  unfold ltOf cf
  by_cases h : x.r.1 < y.r.1
  · rw [decide_eq_true h, decide_eq_true (by omega)]
  · rw [decide_eq_false h, decide_eq_false (by omega)]
theorem swo : SWO (ltOf cf) where
  irrefl x := by rw [ltOf_cf]; simp
  trans x y z h1 h2 := by rw [ltOf_cf] at *; simp at *; omega
  ntrans x y z h1 h2 := by rw [ltOf_cf] at *; simp at *; omega
theorem cmpLays (blk off size : Nat) (w : World) : CmpLays Tryz.prog 94 #[] ev 2 cf blk off size w := by
  intro m os dk _ x y
  have hx := x.lo
  have hy := y.lo
  refine (cmp x.r y.r _ (by omega)).mono ?_
  rintro e w' ⟨rfl, rfl⟩
  exact ⟨rfl, 0, _, by rw [Go.Sort.alloc_eq_grow, Go.Sort.alloc_eq_grow, Go.Sort.grow_grow]; rfl⟩
theorem heap_sorted {w : World} {g n : Nat} {os : Array Obj} {cur : Array Value} {e : TypeId} {fr : Nat × Nat} (d : Array Value) (hb : w.heap[g]? = some (.cells cur e fr)) :
    (Go.Sort.grow (Go.Sort.putRow id (Go.Sort.ahead w n) g 0 d) os).heap[g]? = some (.cells (Go.Sort.putCells id 0 d cur) e fr) := by
  have hg : g < w.heap.size := (Array.getElem?_eq_some_iff.1 hb).1
  rw [Go.Sort.heap_grow_old _ _ (by simpa using hg)]
  simp [Go.Sort.putRow, Go.Sort.mapBlock, Go.Sort.ahead, Array.getElem?_modify, hb, Go.Sort.onCells]
theorem heap_other {w : World} {g n : Nat} {os : Array Obj} (d : Array Value) (k : Nat) (hk : k < w.heap.size) (hne : k ≠ g) : (Go.Sort.grow (Go.Sort.putRow id (Go.Sort.ahead w n) g 0 d) os).heap[k]? = w.heap[k]? := by
  rw [Go.Sort.heap_grow_old _ _ (by simpa using hk)]
  have : g ≠ k := fun e => hne e.symm
  simp [Go.Sort.putRow, Go.Sort.mapBlock, Go.Sort.ahead, Array.getElem?_modify, this]
theorem take_putCells (cur : Array Value) (ts : List Value) (h : ts.length ≤ cur.size) : (Go.Sort.putCells id 0 ts.toArray cur).toList.take ts.length = ts := by
  apply List.ext_getElem?
  intro j
  by_cases hj : j < ts.length
  · rw [List.getElem?_take_of_lt hj, Array.getElem?_toList]
    simp [Go.Sort.putCells, hj, show j < cur.size by omega]
  · rw [List.getElem?_take_eq_none (by omega), List.getElem?_eq_none (by omega)]
theorem isAggRg (w : World) : (isAgg 58).run Tryz.prog w = .ok true w := by
  have := Tryz.isAgg58
  exact this w
theorem sort {B : Nat} {w : World} {v : Value} {l : List Rg} (h : OwnR B w v l) (hr : ∀ r ∈ l, 0 ≤ r.1 ∧ r.1 ≤ 1114111) (hl : l.length ≤ 1000000000) (hB : B ≤ w.heap.size) :
    Calls Tryz.prog 93 #[v, .func (.func 94) #[] #[]] w fun e w' => e = .returned (.tuple #[]) ∧
      ∃ l', l'.Perm l ∧ l'.Pairwise (fun a b => a.1 ≤ b.1) ∧ OwnR B w' v l' ∧ Below B w w' := by
  rcases h.2 with ⟨rfl, hn⟩ | ⟨g, cap, cur, rfl, hBg, hg, hn, hm, hs, ht⟩
  · obtain rfl : l = [] := List.eq_nil_of_length_eq_zero hn
    refine (AnyF.slices_SortFunc_none Tryz.sortRg none 0 _ w).mono ?_
    rintro e w' ⟨rfl, rfl⟩
    exact ⟨rfl, [], List.Perm.refl _, List.Pairwise.nil, h, Below.refl _ _⟩
  · obtain ⟨lv, rfl⟩ := lift_rg l hr
    have eg : ∀ args w, (callFunc 94 args).run Tryz.prog w = .ok (.enter 94 args) w := enters_of Tryz.func94 (by kernel_rfl) rfl
    have hlen : (lv.map RgV.r).length = lv.toArray.size := by simp
    have hH : HoldsK ev 2 w g 0 lv.toArray := by
      intro j hj
      have hj' : j < lv.length * 2 := by simpa using hj
      rw [flat_ev] at ht
      have e : (flat ev lv)[j]? = some (flatK ev 2 lv.toArray)[j]! := by
        rw [getElem!_pos (flatK ev 2 lv.toArray) j hj, ← Array.getElem_toList (h := by simpa using hj)]
        simp only [flatK_list]
        rw [List.getElem?_eq_getElem]
      refine ⟨?_, by simp [World.frozen?, hg]⟩
      simp only [World.cell?, hg, Nat.zero_add, id]
      rw [← ht, List.getElem?_take] at e
      split at e
      · simpa using e
      · cases e
    rw [hlen]
    refine (AnyQ.slices_SortFunc Tryz.sortRg 2 isAggRg Tryz.sizeOf58 ev ev_len (fun x => er_one x.r) cf swo 94 #[] g 0 cap lv.toArray w eg (cmpLays g 0 lv.toArray.size w) hH (heap_lt hg) (by simp at hl ⊢; omega)).mono ?_
    rintro e w' ⟨rfl, d', n, os, hp, hs', rfl⟩
    obtain ⟨hp1, hp2, hp3⟩ := hp
    simp only [List.size_toArray] at *
    have hd : d'.toList.Perm lv := by
      have e1 : d'.extract 0 lv.length = d' := by rw [← hp1]; simp
      have e2 : lv.toArray.extract 0 lv.length = lv.toArray := by simp
      rw [e1, e2] at hp3
      simpa using hp3
    have hl2 : (d'.toList.map RgV.r).length = (lv.map RgV.r).length := by rw [List.length_map, List.length_map, hd.length_eq]
    have hfl : (flatK ev 2 d').toList = flat er (d'.toList.map RgV.r) := by rw [flatK_list, flat_ev]
    have hfl2 : flatK ev 2 d' = (flat er (d'.toList.map RgV.r)).toArray := by rw [← hfl]
    refine ⟨trivial, d'.toList.map RgV.r, hd.map _, ?_, ?_, ?_⟩
    · rw [List.pairwise_map, List.pairwise_iff_getElem]
      intro i j hi hj hij
      have hi' : i < d'.size := by simpa using hi
      have hj' : j < d'.size := by simpa using hj
      have := hs' i j (Nat.zero_le _) hij (by omega)
      rw [getElem!_pos d' j hj', getElem!_pos d' i hi'] at this
      rw [ltOf_cf, decide_eq_false_iff_not] at this
      simp only [Array.getElem_toList]
      omega
    · unfold OwnR Own
      refine ⟨by rw [flat_len er_len], .inr ⟨g, cap, _, by rw [hl2]; simp, hBg, heap_sorted _ hg, by rw [hl2]; exact hn, hm, by simp [putCells, hs], ?_⟩⟩
      rw [hfl2]
      have hln : (flat er (d'.toList.map RgV.r)).length = (d'.toList.map RgV.r).length * 2 := flat_len er_len _
      rw [← hln]
      exact take_putCells _ _ (by rw [hln, hl2, hs]; omega)
    · refine ⟨rfl, rfl, rfl, by simp [sortWorldK, putRowK], fun k hk => heap_other _ k (by omega) (by omega)⟩
end Go.Proofs.YtooockbfagkknaaGreatDoor.cls
