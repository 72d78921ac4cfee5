/- Slices of ranges and of nodes that came in, opened at any depth. -/
import Derived.Test.YtooockbfagkknaaGreatDoorRows
import Derived.Test.YtooockbfagkknaaGreatDoorNrd
import Derived.ProofKit
import Derived.OpenShut
import Derived.Deep.Slices
namespace Go.Proofs.YtooockbfagkknaaGreatDoor.syn
open Go.ChangeShapes Go.WideShapes Go.ChangeAt Go.RowKit Go.Proofs.YtooockbfagkknaaGreatDoor.sl Go.Proofs.YtooockbfagkknaaGreatDoor.cls
section bulks
theorem bulk_one {H : Type} (d : DataW H) : 1 ≤ Rows.uptoBulk d := by
  cases d with
  | lit l => cases l <;> simp [Rows.uptoBulk]
  | nil => simp [Rows.uptoBulk]
  | ptr d => simp [Rows.uptoBulk]
  | slice elems spare => simp [Rows.uptoBulk]
  | agg parts => simp [Rows.uptoBulk]
  | iface t d => simp [Rows.uptoBulk]
  | map entries => simp [Rows.uptoBulk]
  | held h => simp [Rows.uptoBulk]
theorem bulk_part {H : Type} {d : DataW H} {l : List (DataW H)} (h : d ∈ l) : Rows.uptoBulk d ≤ Rows.uptoBulkAll l := by
  induction l with
  | nil => cases h
  | cons x r ih =>
    simp only [Rows.uptoBulkAll]
    cases List.mem_cons.1 h with
    | inl e => subst e; omega
    | inr e => have := ih e; omega
theorem bulk_length {H : Type} (l : List (DataW H)) : l.length ≤ Rows.uptoBulkAll l := by
  induction l with
  | nil => simp [Rows.uptoBulkAll]
  | cons x r ih => have := bulk_one x; simp only [Rows.uptoBulkAll, List.length_cons]; omega
theorem bulk_slice {H : Type} (elems spare : List (DataW H)) : elems.length + 1 ≤ Rows.uptoBulk (.slice elems spare) ∧ ∀ d ∈ elems, Rows.uptoBulk d ≤ Rows.uptoBulk (.slice elems spare) := by
  have h1 := bulk_length elems
  simp only [Rows.uptoBulk]
  exact ⟨by omega, fun d hd => by have := bulk_part hd; omega⟩
theorem bulk_agg {H : Type} (parts : List (DataW H)) : ∀ d ∈ parts, Rows.uptoBulk d ≤ Rows.uptoBulk (.agg parts) := fun d hd => by
  have := bulk_part hd
  simp only [Rows.uptoBulk]
  omega
theorem bulk_bound {H : Type} {l : List (DataW H)} (hk : Rows.uptoSmall H l = true) : Rows.uptoBulkAll l ≤ 1048576 := of_decide_eq_true hk
end bulks
theorem rd_of_cells {α : Type} {enc : α → List Value} {k : Nat} (hk : ∀ x, (enc x).length = k) (kp : 0 < k) {w : World} {a : Addr} {len cap : Nat} (f : Nat → α) (hl : len ≤ cap) (hm : cap ≤ maxLen)
    (hx : ∀ i, i < cap → w.cells? 0 (a.add (i * k)) k = some (enc (f i))) : Rd enc w (some a) ((List.range len).map f) cap := by
  refine ⟨fun e => (nomatch e), by simpa using hl, hm, fun ad e hp => ?_⟩
  obtain rfl : a = ad := by simpa using e
  obtain ⟨b, off, sp⟩ := a
  have h0 := (World.cells?_some (hx 0 hp)).2.2 0 kp
  have e0 : ((⟨b, off, sp⟩ : Addr).add (0 * k)).add 0 = ⟨b, off, sp⟩ := by simp [Addr.add]
  rw [e0] at h0
  have hlt : 0 < (enc (f 0)).length := by rw [hk]; exact kp
  rw [List.getElem?_eq_getElem hlt] at h0
  have hb := cell_lt h0
  obtain rfl : sp = none := by
    cases sp with
    | none => rfl
    | some s =>
      simp only [World.cell?] at h0
      split at h0 <;> simp at h0
  refine ⟨rfl, hb, fun j u hj => ?_⟩
  have hj2 : j < len * k := by
    have := lt_of_some hj
    rw [flat_len hk] at this
    simpa using this
  have hi : j / k < len := Nat.div_lt_of_lt_mul (by rw [Nat.mul_comm]; exact hj2)
  have ht : j % k < k := Nat.mod_lt _ kp
  have ej : j = j / k * k + j % k := by rw [Nat.mul_comm]; exact (Nat.div_add_mod j k).symm
  rw [ej, flat_get hk _ (j / k) (j % k) (f (j / k)) (by simp [hi]) ht] at hj
  have hc := (World.cells?_some (hx (j / k) (by omega))).2.2 (j % k) ht
  have ea : ((⟨b, off, none⟩ : Addr).add (j / k * k)).add (j % k) = ⟨b, off + j, none⟩ := by
    rw [Addr.add_lit, Addr.add_lit]
    congr 1
    omega
  rw [ea, hj] at hc
  exact hc
theorem list_two {α : Type} {l : List α} (h : l.length = 2) : ∃ a b, l = [a, b] := by
  match l, h with
  | [a, b], _ => exact ⟨a, b, rfl⟩
theorem list_seven {α : Type} {l : List α} (h : l.length = 7) : ∃ a b c d e f g, l = [a, b, c, d, e, f, g] := by
  match l, h with
  | [a, b, c, d, e, f, g], _ => exact ⟨a, b, c, d, e, f, g, rfl⟩
instance : Inhabited NdV := ⟨⟨nd 0, none, 0, 0⟩⟩
section
variable {H : Type} {enc : TypeId × Value → H} {W : World} {held : Bool}
/-- The parts of a struct, one by one. -/
theorem open_parts {t : TypeId} {n : Nat} {cs : List Value} {x : DataW H × List MemPlace} {ts : List (TypeId × Nat)} (hu : Tryz.prog.underlying t = some (.struct (Tryz.prog.fieldsOf t))) (hf : (Tryz.prog.fieldsOf t).toList.map (fun f => (f.type, f.offset)) = ts)
    (h : DataW.trod enc Tryz.prog W 0 (fun _ => true) held n t cs = some x) :
    cs.length = Tryz.prog.cellsOf t ∧ ∃ m, ∀ (i : Nat) u o, ts[i]? = some (u, o) → ∃ y, DataW.trod enc Tryz.prog W 0 (fun _ => true) held m u ((cs.drop o).take (Tryz.prog.cellsOf u)) = some y ∧ Rows.uptoBulk y.1 ≤ Rows.uptoBulk x.1 := by
  obtain ⟨xs, m, _, hx, hl, hxl, hp⟩ := DataW.trod_struct hu h
  refine ⟨hl, m, fun i u o hi => ?_⟩
  rw [← hf, List.getElem?_map, Option.map_eq_some_iff] at hi
  obtain ⟨f, hfi, he⟩ := hi
  simp only [Prod.mk.injEq] at he
  obtain ⟨rfl, rfl⟩ := he
  have hfi2 : (Tryz.prog.fieldsOf t)[i]? = some f := by simpa using hfi
  have h1 := hp i f hfi2
  have hlt : i < xs.length := by
    rw [hxl]
    exact (Array.getElem?_eq_some_iff.1 hfi2).1
  rw [List.getElem?_eq_getElem hlt] at h1
  refine ⟨_, h1, ?_⟩
  rw [hx]
  exact bulk_agg _ _ (List.mem_map_of_mem (List.getElem_mem hlt))
theorem cells_rg : Tryz.prog.cellsOf 58 = 2 := by kernel_rfl
theorem cells_i32 : Tryz.prog.cellsOf 21 = 1 := by kernel_rfl
theorem fields_rgo : (Tryz.prog.fieldsOf 58).toList.map (fun f => (f.type, f.offset)) = [(21, 0), (21, 1)] := by kernel_rfl
theorem open_rg {n : Nat} {cs : List Value} {x : DataW H × List MemPlace} (h : DataW.trod enc Tryz.prog W 0 (fun _ => true) held n 58 cs = some x) : ∃ r : Rg, cs = er r := by
  obtain ⟨hl, m, hp⟩ := open_parts und_rg fields_rgo h
  rw [cells_rg] at hl
  obtain ⟨c0, c1, rfl⟩ := list_two hl
  obtain ⟨y0, h0, _⟩ := hp 0 _ _ rfl
  obtain ⟨y1, h1, _⟩ := hp 1 _ _ rfl
  rw [cells_i32] at h0 h1
  obtain ⟨n0, e0, _, _⟩ := DataW.trod_int Tryz.underlying21 h0
  obtain ⟨n1, e1, _, _⟩ := DataW.trod_int Tryz.underlying21 h1
  simp only [List.drop_zero, List.drop_succ_cons, List.take_succ_cons, List.take_zero, List.cons.injEq, and_true] at e0 e1
  subst e0 e1
  exact ⟨(n0, n1), rfl⟩
theorem open_rgs {n : Nat} {v : Value} {x : DataW H × List MemPlace} (h : DataW.trod enc Tryz.prog W 0 (fun _ => true) held n 33 [v] = some x) :
    ∃ (a : Option Addr) (l : List Rg) (cap : Nat), v = .slice a l.length cap ∧ Rd er W a l cap ∧ l.length ≤ Rows.uptoBulk x.1 := by
  rcases Go.Deep.open_slice Tryz.underlying33 h with ⟨hcs, _⟩ | ⟨a, len, cap, m, n, D, Pl, hcs, _, hl, hm, hmm, rfl, hx⟩
  · obtain rfl : v = .slice none 0 0 := by simpa using hcs
    exact ⟨none, [], 0, rfl, Rd.nil er W, Nat.zero_le _⟩
  · obtain rfl : v = .slice (some a) len cap := by simpa using hcs
    simp only [if_true] at hmm
    subst hmm
    have hr : ∀ i, i < m → ∃ r : Rg, W.cells? 0 (a.add (i * 2)) 2 = some (er r) := fun i hi => by
      obtain ⟨cs', h1, h2⟩ := hx i hi
      rw [cells_rg] at h1
      obtain ⟨r, rfl⟩ := open_rg h2
      exact ⟨r, h1⟩
    obtain ⟨f, hf⟩ := Go.Deep.choose_lt hr
    refine ⟨some a, (List.range len).map f, m, by simp, rd_of_cells er_len (by omega) f hl hm hf, ?_⟩
    have := (bulk_slice ((List.range len).map D) ((List.range (m - len)).map fun j => D (len + j))).1
    simp at this ⊢
    omega
theorem cells_nd : Tryz.prog.cellsOf 35 = 7 := by kernel_rfl
theorem cells_int : Tryz.prog.cellsOf 3 = 1 := by kernel_rfl
theorem cells_bool : Tryz.prog.cellsOf 4 = 1 := by kernel_rfl
theorem cells_rgs : Tryz.prog.cellsOf 33 = 1 := by kernel_rfl
theorem und_nd : Tryz.prog.underlying 35 = some (.struct (Tryz.prog.fieldsOf 35)) := by kernel_rfl
theorem fields_nd : (Tryz.prog.fieldsOf 35).toList.map (fun f => (f.type, f.offset)) = [(3, 0), (33, 1), (3, 2), (3, 3), (4, 4), (3, 5), (3, 6)] := by kernel_rfl
theorem wf_i64 {n : Int} (h : (Lit.int .i64 n).wf = true) : -9223372036854775808 ≤ n ∧ n ≤ 9223372036854775807 := by
  simp only [Lit.wf, Bool.and_eq_true, decide_eq_true_eq] at h
  exact h
set_option maxRecDepth 100000 in
theorem open_nd {n : Nat} {cs : List Value} {x : DataW H × List MemPlace} (h : DataW.trod enc Tryz.prog W 0 (fun _ => true) held n 35 cs = some x) :
    ∃ y : NdV, cs = eN y ∧ y.n = y.x.r.length ∧ Rd er W y.a y.x.r y.c ∧ y.x.r.length ≤ Rows.uptoBulk x.1 ∧ y.x.kids ≤ 9223372036854775807 := by
  obtain ⟨hl, m, hp⟩ := open_parts und_nd fields_nd h
  rw [cells_nd] at hl
  obtain ⟨c0, c1, c2, c3, c4, c5, c6, rfl⟩ := list_seven hl
  obtain ⟨y0, h0, _⟩ := hp 0 _ _ rfl
  obtain ⟨y1, h1, b1⟩ := hp 1 _ _ rfl
  obtain ⟨y2, h2, _⟩ := hp 2 _ _ rfl
  obtain ⟨y3, h3, _⟩ := hp 3 _ _ rfl
  obtain ⟨y4, h4, _⟩ := hp 4 _ _ rfl
  obtain ⟨y5, h5, _⟩ := hp 5 _ _ rfl
  obtain ⟨y6, h6, _⟩ := hp 6 _ _ rfl
  rw [cells_int] at h0 h2 h3 h5 h6
  rw [cells_bool] at h4
  rw [cells_rgs] at h1
  obtain ⟨n0, e0, _, _⟩ := DataW.trod_int Tryz.underlying3 h0
  obtain ⟨a, l, cap, e1, hr, hb⟩ := open_rgs (v := c1) h1
  obtain ⟨n2, e2, _, _⟩ := DataW.trod_int Tryz.underlying3 h2
  obtain ⟨n3, e3, _, _⟩ := DataW.trod_int Tryz.underlying3 h3
  obtain ⟨n4, e4, _⟩ := DataW.trod_bool Tryz.underlying4 h4
  obtain ⟨n5, e5, _, _⟩ := DataW.trod_int Tryz.underlying3 h5
  obtain ⟨n6, e6, _, w6⟩ := DataW.trod_int Tryz.underlying3 h6
  simp only [List.drop_zero, List.drop_succ_cons, List.take_succ_cons, List.take_zero, List.cons.injEq, and_true] at e0 e2 e3 e4 e5 e6
  subst e0 e1 e2 e3 e4 e5 e6
  exact ⟨⟨⟨n0, l, n2, n3, n4, n5, n6⟩, a, l.length, cap⟩, rfl, rfl, hr, Nat.le_trans hb b1, (wf_i64 w6).2⟩
set_option maxRecDepth 100000 in
theorem open_nodes {v : Value} {d : DataW H} {p : List MemPlace} (h : DataW.Trod enc Tryz.prog W 0 (fun _ => true) true 22 v d p) (hv : Value.okWide Tryz.prog W .any 0 22 v) (hd : Rows.uptoBulk d ≤ 1048576) :
    ∃ (a : Option Addr) (cap : Nat) (ls : List NdV), v = .slice a ls.length cap ∧ Nrd W a cap ls ∧ ls.length ≤ 1048576 := by
  obtain ⟨a0, len, cap, rfl⟩ := okWide_slice Tryz.underlying22 hv
  obtain ⟨fuel, hf⟩ := h
  rcases Go.Deep.open_slice Tryz.underlying22 hf with ⟨hcs, _⟩ | ⟨a, len', cap', m, n, D, Pl, hcs, _, hl, hm, hmm, hdd, hx⟩
  · simp only [Value.cells, List.cons.injEq, Value.slice.injEq, and_true] at hcs
    obtain ⟨rfl, rfl, rfl⟩ := hcs
    exact ⟨none, 0, [], rfl, ⟨Rd.nil eN W, by simp⟩, Nat.zero_le _⟩
  · simp only [Value.cells, List.cons.injEq, Value.slice.injEq, and_true] at hcs
    obtain ⟨rfl, rfl, rfl⟩ := hcs
    simp only [if_true] at hmm
    subst hmm
    simp only [Prod.mk.injEq] at hdd
    obtain ⟨rfl, -⟩ := hdd
    have hr : ∀ i, i < m → ∃ y : NdV, W.cells? 0 (a.add (i * 7)) 7 = some (eN y) ∧ y.n = y.x.r.length ∧ Rd er W y.a y.x.r y.c ∧ y.x.r.length ≤ Rows.uptoBulk (D i) ∧ y.x.kids ≤ 9223372036854775807 := fun i hi => by
      obtain ⟨cs', h1, h2⟩ := hx i hi
      rw [cells_nd] at h1
      obtain ⟨y, rfl, hy⟩ := open_nd h2
      exact ⟨y, h1, hy⟩
    obtain ⟨f, hf⟩ := Go.Deep.choose_lt hr
    obtain ⟨hb1, hb2⟩ := bulk_slice ((List.range len).map D) ((List.range (m - len)).map fun j => D (len + j))
    rw [List.length_map, List.length_range] at hb1
    refine ⟨some a, m, (List.range len).map f, by simp, ⟨rd_of_cells eN_len (by omega) f hl hm fun i hi => (hf i hi).1, fun y hy => ?_⟩, by simp; omega⟩
    obtain ⟨i, hi, rfl⟩ := List.mem_map.1 hy
    have hi2 : i < len := by simpa using hi
    obtain ⟨_, g1, g2, g3, g4⟩ := hf i (by omega)
    have := hb2 (D i) (List.mem_map_of_mem hi)
    exact ⟨g1, g2, by omega, g4⟩
end
end Go.Proofs.YtooockbfagkknaaGreatDoor.syn
