/- Symbolic runs of Go functions: every operation; a row of operations in the text's order. -/
import Derived.Test.YtjdehneddakpnaaGreatDoorCSxA
import Derived.Lib.ConvBytes
import Derived.Laws.StructEq
import Derived.Tactics
import Derived.Orders
set_option linter.all false
namespace Go.Proofs.YtjdehneddakpnaaGreatDoor.sx
open Go Go.RowKit
section
variable {P : Program} {D : Data} {cd : TypeId → Option Nat} {M M' : Pm D} {φ : T (AV D.E)} {a : Act} {N : Nat} {w w' : World} {H : Hp D} {s s' : St D.E}
/-- things into an array of the call's own -/
theorem arr_put (hD : DataOk D) {b c e o : Nat} {xs zs : List (D.E c)} {vs' : List Value} {mi : MI} (hb : H b = some (.arr c xs e false)) (hm : M.pl b = some mi) (hr : mi.real = true) (hS : Sim M H w) (hv : LR M (rowsC c zs) vs') (ho : o + zs.length ≤ xs.length) (lo : Nat) :
    (storeCells ⟨mi.blk, mi.sh + o * mi.esz, none⟩ vs' 0).run P w = .ok () (w.setCells mi.blk (mi.sh + o * mi.esz) vs') ∧ Stp H M w (upd H b (some (.arr c (xs.take o ++ zs ++ xs.drop (o + zs.length)) e false))) M (w.setCells mi.blk (mi.sh + o * mi.esz) vs') lo lo := by
  obtain ⟨mi', hm', hl, hes, hcl⟩ := hS.obj b _ hb
  rw [hm] at hm'; cases hm'
  obtain ⟨C, fz, k1, k2, k3, k4, k5⟩ := hcl hr
  rw [rowsC_len hD] at k3
  have hvl : vs'.length = zs.length * D.size c := by rw [← hv.1, rowsC_len hD]
  have hmul : (o + zs.length) * D.size c ≤ xs.length * D.size c := Nat.mul_le_mul_right _ ho
  rw [Nat.add_mul] at hmul
  have hxl : (xs.take o ++ zs ++ xs.drop (o + zs.length)).length = xs.length := by
    simp only [List.length_append, List.length_take, List.length_drop]; omega
  have e1 : (rowsC c (xs.take o)).length = o * D.size c := by rw [rowsC_len hD, List.length_take, Nat.min_eq_left (by omega)]
  have e2 : (rowsC c zs).length = zs.length * D.size c := rowsC_len hD c zs
  have hpre : rowsC c xs = rowsC c (xs.take o) ++ rowsC c ((xs.drop o).take zs.length) ++ rowsC c (xs.drop (o + zs.length)) := by
    rw [← rowsC_app, ← rowsC_app, List.append_assoc, ← List.drop_drop, List.take_append_drop, List.take_append_drop]
  have e3 : (rowsC c ((xs.drop o).take zs.length)).length = zs.length * D.size c := by rw [rowsC_len hD, List.length_take, List.length_drop, Nat.min_eq_left (by omega)]
  obtain ⟨c1, c2, c3⟩ := put_stp (o1 := .arr c (xs.take o ++ zs ++ xs.drop (o + zs.length)) e false) (q := mi.sh + o * mi.esz) (vs' := vs') hS hb rfl hm hr k1 k2 (by rw [hes]; omega) (k5 rfl) (fun _ => trivial) (fun C' w1 w2 w3 => ⟨by rw [hxl]; exact hl, hes, fun _ => ⟨C', fz, w1, w2.trans k2, by rw [rowsC_len hD, hxl]; exact k3, fun q v hq => by
    rw [rowsC_app, rowsC_app] at hq
    rw [w3, hes]
    by_cases h1 : q < o * D.size c
    · rw [List.getElem?_append_left (by rw [List.length_append]; omega), List.getElem?_append_left (by omega)] at hq
      rw [if_neg (by omega)]
      exact k4 q v (by rw [hpre, List.getElem?_append_left (by rw [List.length_append]; omega), List.getElem?_append_left (by omega)]; exact hq)
    · by_cases h2 : q < o * D.size c + zs.length * D.size c
      · rw [List.getElem?_append_left (by rw [List.length_append]; omega), List.getElem?_append_right (by omega), e1] at hq
        rw [if_pos (by omega), show mi.sh + q - (mi.sh + o * D.size c) = q - o * D.size c by omega]
        exact hv.get hq
      · rw [List.getElem?_append_right (by rw [List.length_append]; omega), List.length_append, e1, e2] at hq
        rw [if_neg (by omega)]
        exact k4 q v (by rw [hpre, List.getElem?_append_right (by rw [List.length_append]; omega), List.length_append, e1, e3]; exact hq), k5⟩⟩) lo
  refine ⟨?_, c3⟩
  exact run_storeCells_cells (P := P) mi.blk (mi.sh + o * mi.esz) vs' 0 w (by simpa using c1) (by simpa using c2) (one_LR hv (allL_one hD))
theorem lover_eq {α : Type} (xs ys : List α) (o n : Nat) : lover xs (o : Int) (n : Int) ys = xs.take o ++ ys.take n ++ xs.drop (o + (ys.take n).length) := by simp [lover]
theorem imin_eq (a b : Nat) : imin (a : Int) (b : Int) = ((Nat.min b a : Nat) : Int) := by
  unfold imin
  rw [show Nat.min b a = min b a from rfl]
  split <;> omega
theorem rowsC_take (hD : DataOk D) (c : Nat) (ys : List (D.E c)) (n : Nat) : rowsC c (ys.take n) = (rowsC c ys).take (n * D.size c) := by
  by_cases h : n ≤ ys.length
  · have e : rowsC c ys = rowsC c (ys.take n) ++ rowsC c (ys.drop n) := by rw [← rowsC_app, List.take_append_drop]
    rw [e, List.take_left' (by rw [rowsC_len hD, List.length_take, Nat.min_eq_left h])]
  · rw [List.take_of_length_le (by omega), List.take_of_length_le (by rw [rowsC_len hD]; exact Nat.mul_le_mul_right _ (by omega))]
/-- where an array's part lies -/
def At (M : Pm D) (b : Nat) (o n : Nat) (d' : Value) : Prop := ∃ mi, M.pl b = some mi ∧ ((mi.real = true ∧ o + n ≤ mi.len ∧ n ≤ 9223372036854775807 ∧ ∃ cap, d' = .slice (some ⟨mi.blk, mi.sh + o * mi.esz, none⟩) n cap) ∨ (n = 0 ∧ ∃ ad cap, d' = .slice ad 0 cap))
theorem copyTo_run (hD : DataOk D) {t ty e c : TypeId} {b o n : Nat} {x v : AV D.E} {d' x' : Value} {ts : Array TypeId} {vs : Array Value} (h : (copyTo D s b (o : Int) (n : Int) x c).H (v, s')) (hd : At M b o n d') (hx : VR M x x') (hS : Sim M s.h.get w)
    (ht : P.underlying t = some (.slice e)) (hsz : szOf P e = some (D.size c)) (h0 : ts[0]? = some t) (h1 : vs[0]? = some d') (h2 : vs[1]? = some x') : Res s M w ((Builtin.copy_ ts ty vs).run P w) v s' := by
  obtain ⟨⟨c2, xs, e2, ro⟩, ha, h3⟩ := bnd_H.1 h
  have hb := arrAt_H ha
  cases ro with
  | true => exact h3.elim
  | false =>
    obtain ⟨ys, hys, h4⟩ := bnd_H.1 (show (bnd (rowsOf D s c2 x) _).H (v, s') from h3)
    obtain ⟨hcc, h5⟩ := bB_H.1 h4
    rw [beq_nat] at hcc
    subst hcc
    obtain ⟨s2, hset, h6⟩ := bnd_H.1 h5
    cases ret_H.1 h6
    obtain ⟨g1, g2⟩ := set_H hset
    obtain ⟨news, hsr⟩ := rowsOf_run (P := P) hD hys hx hS
    obtain ⟨mi, hm, hd2⟩ := hd
    obtain ⟨mi', hm', hl, hes, hcl⟩ := hS.obj b _ hb
    rw [hm] at hm'; cases hm'
    simp only at hl hes hb
    have hmin : Nat.min ys.length n ≤ ys.length := Nat.min_le_left _ _
    have hcells := hsr.cells (Nat.min ys.length n) hmin w rfl
    have htk : ys.take n = ys.take (Nat.min ys.length n) := by
      rw [show Nat.min ys.length n = min ys.length n from rfl]
      by_cases hc : n ≤ ys.length
      · rw [Nat.min_eq_right hc]
      · rw [Nat.min_eq_left (by omega), List.take_of_length_le (by omega), List.take_of_length_le (Nat.le_refl _)]
    have hlr : LR M (rowsC c (ys.take n)) (news.take (Nat.min ys.length n * D.size c)) := by
      rw [htk, rowsC_take hD]
      exact hsr.lr.take _
    have hvi : VR M (.int .i64 (imin (n : Int) (llen ys)) : AV D.E) (goInt (Nat.min ys.length n)) ∨ 9223372036854775807 < n := by
      by_cases hn : n ≤ 9223372036854775807
      · left
        rw [show llen ys = (ys.length : Int) from rfl, imin_eq]
        exact .int (nat_inR (Nat.le_trans (Nat.min_le_right _ _) hn))
      · right; omega
    rw [lover_eq] at g1
    rcases hd2 with ⟨hr, hon, hn, cap, rfl⟩ | ⟨rfl, ad, cap, rfl⟩
    · have hvi := hvi.resolve_right (by omega)
      obtain ⟨q1, q2⟩ := arr_put (P := P) hD hb hm hr hS hlr (o := o) (by rw [List.length_take]; omega) s.nx
      refine ⟨M, _, _, ?_, hvi, by rw [g1, g2]; exact q2⟩
      simp only [Builtin.copy_, h0, h1, h2, Sem.run_bind, Result.andThen_ok, run_underlying ht, hsr.len, run_size hsz, hcells, Sem.run_pure]
      rw [q1]
      rfl
    · have hvi := hvi.resolve_right (by omega)
      have hsame : upd s.h.get b (some (.arr c (xs.take o ++ ys.take 0 ++ xs.drop (o + (ys.take 0).length)) e2 false)) = s.h.get := by
        funext k
        unfold upd
        split
        · rename_i hk; rw [hk, hb]; simp
        · rfl
      rw [hsame] at g1
      refine ⟨M, _, w, ?_, hvi, by rw [g1, g2]; exact .refl hS _⟩
      have hz : Nat.min ys.length 0 = 0 := by rw [show Nat.min ys.length 0 = min ys.length 0 from rfl]; omega
      rw [hz] at hcells ⊢
      rw [Nat.zero_mul, List.take_zero] at hcells
      cases ad <;> simp [Builtin.copy_, h0, h1, h2, run_underlying ht, hsr.len, run_size hsz, hcells, storeCells]
theorem foldl_set (off : Nat) : ∀ (vs : List Value) (k : Nat) (C : Array Value), off + k + vs.length ≤ C.size →
    ((vs.zipIdx k).foldl (fun cs (p : Value × Nat) => cs.setIfInBounds (off + p.2) p.1) C).size = C.size ∧
    ∀ i, ((vs.zipIdx k).foldl (fun cs (p : Value × Nat) => cs.setIfInBounds (off + p.2) p.1) C)[i]? = if off + k ≤ i ∧ i < off + k + vs.length then vs[i - (off + k)]? else C[i]?
  | [], k, C, h => ⟨rfl, fun i => by simp; omega⟩
  | v :: vs, k, C, h => by
    simp only [List.length_cons] at h
    obtain ⟨h1, h2⟩ := foldl_set off vs (k + 1) (C.setIfInBounds (off + k) v) (by simp; omega)
    rw [List.zipIdx_cons, List.foldl_cons]
    refine ⟨by rw [h1]; simp, fun i => ?_⟩
    rw [h2 i]
    simp only [List.length_cons]
    by_cases hi : i = off + k
    · subst hi
      rw [if_neg (by omega), if_pos (by omega), Nat.sub_self, Array.getElem?_setIfInBounds_self_of_lt (by omega)]
      rfl
    · rw [Array.getElem?_setIfInBounds_ne (fun e => hi e.symm)]
      by_cases hc : off + (k + 1) ≤ i ∧ i < off + (k + 1) + vs.length
      · rw [if_pos hc, if_pos (by omega), show i - (off + k) = (i - (off + (k + 1))) + 1 by omega]
        rfl
      · rw [if_neg hc, if_neg (by omega)]
theorem fill_run {place : Nat → C (Nat × Nat)} {place' : Nat → Option (Nat × Nat)} (hp : ∀ i p, (place i).H p → place' i = some p) (hf : FR M φ a N) : ∀ {ps : List (Nat × Operand)} {cs r : List (AV D.E)} {C : Array Value}, (fillA P D place φ ps cs).H r → LR M cs C.toList →
    ∃ C', Instr.fill place' C (ps.map fun p => (p.1, a.eval p.2)) = some C' ∧ LR M r C'.toList
  | [], cs, r, C, h, hl => by cases ret_H.1 (show (sx.C.ret cs).H r from h); exact ⟨C, rfl, hl⟩
  | (i, x) :: ps, cs, r, C, h, hl => by
    have h1 : (bnd2 (place i) fun off size => bnd (ev P D φ x) fun v => bB (Nat.beq (lLen (cellsV v)) size) (bnd (ofO (sPut off (cellsV v) cs)) fun cs => fillA P D place φ ps cs)).H r := h
    obtain ⟨off, size, hpl, h2⟩ := bnd2_H.1 h1
    obtain ⟨v, hv, h3⟩ := bnd_H.1 h2
    obtain ⟨hs, h4⟩ := bB_H.1 h3
    obtain ⟨cs2, hput, h5⟩ := bnd_H.1 h4
    have hvr := ev_VR hv hf
    have hlr := cellsV_LR hvr
    obtain ⟨p1, p2, p3⟩ := sPut_some (ofO_H.1 hput)
    rw [beq_nat, lLen_eq] at hs
    have hsz : (a.eval x).cells.size = size := by rw [← hs, hlr.1, Array.length_toList]
    have hC : cs.length = C.size := by rw [hl.1, Array.length_toList]
    have hoff : off + (a.eval x).cells.size ≤ C.size := by rw [hsz, ← hs, ← hC]; exact p1
    obtain ⟨f1, f2⟩ := foldl_set off (a.eval x).cells.toList 0 C (by rw [Array.length_toList]; omega)
    have hl2 : LR M cs2 (((a.eval x).cells.toList.zipIdx 0).foldl (fun cs (p : Value × Nat) => cs.setIfInBounds (off + p.2) p.1) C).toList := by
      refine ⟨p2.trans (hC.trans (f1.symm.trans Array.length_toList.symm)), fun j u u' e e' => ?_⟩
      rw [p3] at e
      rw [Array.getElem?_toList, f2] at e'
      by_cases hc : off ≤ j ∧ j < off + (cellsV v).length
      · rw [if_pos hc] at e
        rw [if_pos (by rw [← hlr.1]; omega)] at e'
        exact hlr.2 _ u u' e (by simpa using e')
      · rw [if_neg hc] at e
        rw [if_neg (by rw [← hlr.1]; omega)] at e'
        exact hl.2 j u u' e (by rw [Array.getElem?_toList]; exact e')
    obtain ⟨C', g1, g2⟩ := fill_run hp hf h5 hl2
    refine ⟨C', ?_, g2⟩
    rw [List.map_cons, Instr.fill]
    simp only [hp i _ hpl]
    rw [if_neg (by simp; omega), ← Array.foldl_toList, Array.toList_zipIdx]
    exact g1
theorem allSz_places : ∀ {fs : List Field}, allSz P fs = true → ∃ places, fs.mapM (fun f => (P.info? f.type).map fun i => (f.offset, i.size)) = some places ∧ ∀ i p, (placeS P fs i).H p → places[i]? = some p
  | [], _ => ⟨[], rfl, fun i p h => by
    obtain ⟨f, hf, _⟩ := bnd_H.1 h
    have hf := ofO_H.1 hf
    rw [lGet_eq] at hf
    simp at hf⟩
  | f :: fs, h => by
    have h' := allL_iff.1 h
    have hf := h' f (by simp)
    have hi : ∃ k, szOf P f.type = some k := by
      cases hs : szOf P f.type with
      | none => rw [hs] at hf; cases hf
      | some k => exact ⟨k, rfl⟩
    obtain ⟨k, hk⟩ := hi
    obtain ⟨i, hi, hik⟩ := szOf_some hk
    obtain ⟨places, hp, hpl⟩ := allSz_places (fs := fs) (allL_iff.2 fun x hx => h' x (by simp [hx]))
    refine ⟨(f.offset, i.size) :: places, by simp [List.mapM_cons, hi, hp], fun j p hj => ?_⟩
    cases j with
    | zero =>
      obtain ⟨f', hf', h2⟩ := bnd_H.1 hj
      cases (show some f = some f' from ofO_H.1 hf')
      obtain ⟨k', hk', h3⟩ := bnd_H.1 h2
      cases ret_H.1 h3
      rw [sz_H, hk] at hk'; cases hk'
      simp [hik]
    | succ j =>
      refine hpl j p ?_
      obtain ⟨f', hf', h2⟩ := bnd_H.1 hj
      exact bnd_H.2 ⟨f', hf', h2⟩
theorem opBuild_run {t : TypeId} {parts : Array (Nat × Operand)} {v : AV D.E} (h : (opBuild P D φ t parts.toList).H v) (hf : FR M φ a N) :
    ∃ v', (∀ w, (Instr.build t (parts.map fun (i, x) => (i, a.eval x))).run P w = .ok v' w) ∧ VR M v v' := by
  obtain ⟨z, hz, h1⟩ := bnd_H.1 h
  obtain ⟨d, hd, h2⟩ := bnd_H.1 h1
  rw [und_H] at hd
  obtain ⟨it, z', hit, hzz, hzv⟩ := zeroOf_H hz
  have e : (parts.map fun (i, x) => (i, a.eval x)).toList = parts.toList.map fun p => (p.1, a.eval p.2) := by simp
  cases d <;> simp only at h2 <;> (try exact h2.elim)
  case struct fs =>
    obtain ⟨ha, h3⟩ := bB_H.1 h2
    obtain ⟨cs, hfl, h4⟩ := bnd_H.1 h3
    cases ret_H.1 h4
    obtain ⟨places, hp, hpl⟩ := allSz_places ha
    obtain ⟨C', g1, g2⟩ := fill_run (place' := (places.toArray[·]?)) (fun i p hip => by simpa using hpl i p hip) hf hfl (cellsV_LR (hzv M))
    refine ⟨.agg C', fun w => run_build w t _ C' ?_, .agg g2.1 g2.2⟩
    simp only [Program.built, hit, hd, hzz, hp]
    rw [e]
    exact g1
  case array n el =>
    obtain ⟨k, hk, h3⟩ := bnd_H.1 h2
    obtain ⟨cs, hfl, h4⟩ := bnd_H.1 h3
    cases ret_H.1 h4
    rw [sz_H] at hk
    obtain ⟨ie, hie, hik⟩ := szOf_some hk
    obtain ⟨C', g1, g2⟩ := fill_run (place' := fun i => some (i * k, k)) (fun i p hip => by cases ret_H.1 hip; rfl) hf hfl (cellsV_LR (hzv M))
    refine ⟨.agg C', fun w => run_build w t _ C' ?_, .agg g2.1 g2.2⟩
    simp only [Program.built, hit, hd, hzz, hie, hik]
    rw [e]
    exact g1
theorem sRep_len {α : Type} (z : List α) : ∀ n, (sRep n z).length = n * z.length
  | 0 => by show ([] : List α).length = _; simp
  | n + 1 => by rw [sRep_succ, List.length_append, sRep_len z n, Nat.succ_mul]; omega
theorem sRep_get {α : Type} (z : List α) : ∀ (n i : Nat), i < n * z.length → (sRep n z)[i]? = z[i % z.length]?
  | 0, i, h => by omega
  | n + 1, i, h => by
    rw [sRep_succ]
    by_cases hi : i < z.length
    · rw [List.getElem?_append_left hi, Nat.mod_eq_of_lt hi]
    · rw [List.getElem?_append_right (by omega), sRep_get z n _ (by rw [Nat.succ_mul] at h; omega)]
      congr 1
      conv => rhs; rw [show i = (i - z.length) + z.length by omega, Nat.add_mod_right]
theorem zeros_LR {z : AV D.E} {z' : Value} {n k : Nat} (hzv : VR M z z') (hz : (cellsV z).length = k) (hk : 1 ≤ k) : LR M (sRep n (cellsV z)) ((Array.range (n * k)).map fun i => z'.cells[i % z'.cells.size]!).toList := by
  have hlr := cellsV_LR hzv
  have hsz : z'.cells.size = k := by rw [← hz, hlr.1, Array.length_toList]
  refine ⟨by rw [sRep_len, hz]; simp, fun i v v' e e' => ?_⟩
  have hi : i < n * k := by
    have := (List.getElem?_eq_some_iff.1 e).1
    rw [sRep_len, hz] at this; exact this
  rw [sRep_get _ _ _ (by rw [hz]; exact hi), hz] at e
  simp [hi] at e'
  rw [hsz] at e'
  have hm : i % k < z'.cells.size := by rw [hsz]; exact Nat.mod_lt _ (by omega)
  rw [getElem!_pos z'.cells (i % k) hm] at e'
  refine hlr.2 (i % k) v v' e ?_
  rw [Array.getElem?_toList, Array.getElem?_eq_getElem hm, e']
theorem decR_LR (hD : DataOk D) {c : Nat} {row : List (AV D.E)} {x : D.E c} (h : (decR D c row).H x) {l' : List Value} (hl : LR M row l') : LR M (D.enc c x) l' := by
  obtain ⟨d1, d2⟩ := hD.dec c row x (ofO_H.1 h)
  refine ⟨by rw [hD.len, ← d1]; exact hl.1, fun i v v' e e' => ?_⟩
  have hi : i < row.length := by rw [d1, ← hD.len c x]; exact (List.getElem?_eq_some_iff.1 e).1
  exact d2 i _ v (List.getElem?_eq_getElem hi) e M v' (hl.2 i _ v' (List.getElem?_eq_getElem hi) e')
theorem decAll_LR (hD : DataOk D) {c : Nat} : ∀ {n : Nat} {cs : List (AV D.E)} {xs : List (D.E c)} {l' : List Value}, (decAll D c (D.size c) n cs).H xs → LR M cs l' → cs.length = n * D.size c → xs.length = n ∧ LR M (rowsC c xs) l'
  | 0, cs, xs, l', h, hl, hn => by
    cases ret_H.1 (show (C.ret []).H xs from h)
    refine ⟨rfl, ?_⟩
    have : cs = [] := List.eq_nil_of_length_eq_zero (by rw [hn, Nat.zero_mul])
    subst this
    simpa [rowsC] using hl
  | n + 1, cs, xs, l', h, hl, hn => by
    obtain ⟨row, hrow, h1⟩ := bnd_H.1 (show (bnd (ofO (sTake (D.size c) cs)) fun row => bnd (decR D c row) fun x => bnd (decAll D c (D.size c) n (sDrop (D.size c) cs)) fun r => .ret (x :: r)).H xs from h)
    obtain ⟨x, hx, h2⟩ := bnd_H.1 h1
    obtain ⟨r, hr, h3⟩ := bnd_H.1 h2
    cases ret_H.1 h3
    obtain ⟨_, rfl⟩ := sTake_some (ofO_H.1 hrow)
    rw [sDrop_eq] at hr
    obtain ⟨i1, i2⟩ := decAll_LR hD hr (hl.drop (D.size c)) (by rw [List.length_drop, hn, Nat.succ_mul]; omega)
    refine ⟨by simp [i1], ?_⟩
    have := (decR_LR hD hx (hl.take (D.size c))).app i2
    rw [List.take_append_drop] at this
    simpa [rowsC] using this
theorem opBuildSl_run (hD : DataOk D) {mu : Bool} {t : TypeId} {len : Nat} {parts : Array (Nat × Operand)} {v : AV D.E} (h : (opBuildSl P D cd mu s φ t len parts.toList).H (v, s')) (hf : FR M φ a N) (hS : Sim M s.h.get w) (hfr : Fresh M s.nx s'.nx) :
    Res s M w ((Instr.buildSlice t len (parts.map fun (i, x) => (i, a.eval x))).run P w) v s' := by
  obtain ⟨d, hd, h1⟩ := bnd_H.1 h
  obtain ⟨e, he, h2⟩ := bnd_H.1 h1
  obtain ⟨c, hc, h3⟩ := bnd_H.1 h2
  obtain ⟨z, hz, h4⟩ := bnd_H.1 h3
  obtain ⟨hzk, h5⟩ := bB_H.1 h4
  obtain ⟨hlk, h6⟩ := bB_H.1 h5
  obtain ⟨cs, hfl, h8⟩ := bnd_H.1 h6
  obtain ⟨hone, h9⟩ := bB_H.1 h8
  obtain ⟨xs, hxs, h10⟩ := bnd_H.1 h9
  rw [und_H] at hd
  obtain ⟨hk, hk1⟩ := codeOf_H hc
  obtain ⟨it, z', hit, hzz, hzv⟩ := zeroOf_H hz
  rw [beq_nat, lLen_eq] at hzk
  rw [ble_nat] at hlk
  have hlk' : len * D.size c ≤ 100000 := hlk
  have hd' : d = .slice e := by cases d <;> first | (cases ret_H.1 he; rfl) | exact he.elim
  subst hd'
  have eparts : (parts.map fun (i, x) => (i, a.eval x)).toList = parts.toList.map fun p => (p.1, a.eval p.2) := by simp
  have hzl := zeros_LR (n := len) (hzv M) hzk hk1
  obtain ⟨C', g1, g2⟩ := fill_run (place' := fun i => some (i * D.size c, D.size c)) (fun i p hip => by cases ret_H.1 hip; rfl) hf hfl hzl
  have hcs : cs.length = len * D.size c := by
    have : ∀ {ps : List (Nat × Operand)} {cs r : List (AV D.E)}, (fillA P D (fun i => .ret (Nat.mul i (D.size c), D.size c)) φ ps cs).H r → r.length = cs.length := by
      intro ps
      induction ps with
      | nil => intro cs r h; cases ret_H.1 (show (C.ret cs).H r from h); rfl
      | cons p ps ih =>
        intro cs r h
        obtain ⟨i, x⟩ := p
        have h1 : (bnd2 (.ret (Nat.mul i (D.size c), D.size c)) fun off size => bnd (ev P D φ x) fun v => bB (Nat.beq (lLen (cellsV v)) size) (bnd (ofO (sPut off (cellsV v) cs)) fun cs => fillA P D (fun i => .ret (Nat.mul i (D.size c), D.size c)) φ ps cs)).H r := h
        obtain ⟨off, size, hpl, h2⟩ := bnd2_H.1 h1
        obtain ⟨v, hv, h3⟩ := bnd_H.1 h2
        obtain ⟨_, h4⟩ := bB_H.1 h3
        obtain ⟨cs2, hput, h5⟩ := bnd_H.1 h4
        rw [ih h5]
        exact (sPut_some (ofO_H.1 hput)).2.1
    rw [this hfl, sRep_len, hzk]
  obtain ⟨i1, i2⟩ := decAll_LR hD hxs g2 hcs
  have hCs : C'.size = len * D.size c := by rw [← Array.length_toList, ← g2.1, hcs]
  have hll : len ≤ len * D.size c := Nat.le_mul_of_pos_right _ hk1
  obtain ⟨M', k1, k2⟩ := newRow_run (w := w) (w' := w.alloc (.cells C' e)) (C := C') (fz := (0, 0)) (cap := len) hD h10 hS hfr (by simp) (fun c hc => Below.heap_alloc _ _ _ hc) (by show (w.heap.push _)[w.heap.size]? = _; simp) (.inl rfl) rfl rfl rfl
    (fun j u' hj => by
      obtain ⟨v2, q1, q2⟩ := i2.get hj
      exact ⟨v2, by rw [← Array.getElem?_toList]; exact q1, q2⟩) hCs (by omega) (by omega)
  refine ⟨M', .slice (some ⟨w.heap.size, 0, none⟩) len len, w.alloc (.cells C' e), ?_, by rw [i1] at k1; exact k1, k2⟩
  have hbig : ¬ (len * D.size c > 2 ^ 24) := by omega
  have hnr : (do pure (Value.slice (some (← Go.newRow e C')) len len) : Sem Value).run P w = .ok (.slice (some ⟨w.heap.size, 0, none⟩) len len) (w.alloc (.cells C' e)) := by
    simp [Go.newRow, newObj, Sem.run]
  by_cases h0 : len * D.size c = 0
  · rw [h0] at g1
    simp only [Instr.buildSlice, Sem.run_bind, run_underlying hd, Result.andThen_ok, run_size hk, if_neg hbig, if_pos h0, Sem.run_pure, eparts]
    rw [h0]
    simp only [Array.range_zero', List.map_toArray, List.map_nil] at g1 ⊢
    rw [g1]
    simp only [Sem.run_bind, Sem.run_pure] at hnr ⊢
    exact hnr
  · simp only [Instr.buildSlice, Sem.run_bind, run_underlying hd, Result.andThen_ok, run_size hk, if_neg hbig, if_neg h0, Sem.run_pure, run_zero hit hzz, eparts, g1]
    simp only [Sem.run_bind, Sem.run_pure] at hnr
    exact hnr
end
end Go.Proofs.YtjdehneddakpnaaGreatDoor.sx
namespace Go.Proofs.YtjdehneddakpnaaGreatDoor.sx
open Go Go.RowKit
section
variable {P : Program} {D : Data} {cd : TypeId → Option Nat} {M M' : Pm D} {φ : T (AV D.E)} {a : Act} {N : Nat} {w w' : World} {H : Hp D} {s s' : St D.E}
theorem asI_VR {v : AV D.E} {v' : Value} {k : IntKind} {n : Int} (h : (asI v).H (k, n)) (r : VR M v v') : v' = .int k n ∧ inR k n = true := by
  cases r <;> simp only [asI] at h <;> (try exact h.elim)
  case int hh => cases ret_H.1 h; exact ⟨rfl, hh⟩
  case num hh => cases ret_H.1 h; exact ⟨rfl, hh⟩
theorem asN_VR {v : AV D.E} {v' : Value} {m : Nat} (h : (asN v).H m) (r : VR M v v') : ∃ k, v' = .int k (m : Int) := by
  cases r <;> simp only [asN] at h <;> (try exact h.elim)
  case num k n hh =>
    cases n with
    | negSucc n => exact h.elim
    | ofNat n => cases ret_H.1 h; exact ⟨k, rfl⟩
theorem asT_VR {v : AV D.E} {v' : Value} {b c : Bool} (h : (asT v).H (b, c)) (r : VR M v v') : v' = .bool b := by
  cases r <;> simp only [asT] at h <;> (try exact h.elim)
  case bool => cases ret_H.1 h; rfl
  case lit => cases ret_H.1 h; rfl
theorem asStr_VR {v : AV D.E} {v' : Value} {l : List UInt8} (h : (asStr v).H l) (r : VR M v v') : v' = .string ⟨⟨l⟩⟩ ∧ l.length ≤ 9223372036854775807 := by
  cases r <;> simp only [asStr] at h <;> (try exact h.elim)
  case str hh => cases ret_H.1 h; exact ⟨rfl, hh⟩
theorem asAgg_VR {v : AV D.E} {v' : Value} {l : List (AV D.E)} (h : (asAgg v).H l) (r : VR M v v') : ∃ c' : Array Value, v' = .agg c' ∧ LR M l c'.toList := by
  cases r <;> simp only [asAgg] at h <;> (try exact h.elim)
  case agg hl hh => cases ret_H.1 h; exact ⟨_, rfl, hl, hh⟩
theorem asTup_VR {v : AV D.E} {v' : Value} {l : List (AV D.E)} (h : (asTup v).H l) (r : VR M v v') : ∃ c' : Array Value, v' = .tuple c' ∧ LR M l c'.toList := by
  cases r <;> simp only [asTup] at h <;> (try exact h.elim)
  case tuple hl hh => cases ret_H.1 h; exact ⟨_, rfl, hl, hh⟩
theorem rowsC_rep (_hD : DataOk D) {c : Nat} {x : D.E c} {l' : List Value} (hl : LR M (D.enc c x) l') (n : Nat) : LR M (rowsC c (List.replicate n x)) (List.replicate n l').flatten := by
  induction n with
  | zero => exact .nil
  | succ n ih =>
    rw [List.replicate_succ, List.replicate_succ, List.flatten_cons]
    have := hl.app ih
    simpa [rowsC] using this
theorem zeroCells_flat (z : Array Value) (n : Nat) : (Builtin.zeroCells z n).toList = (List.replicate n z.toList).flatten := by
  by_cases hz : z.size = 0
  · have : z.toList = [] := List.eq_nil_of_length_eq_zero (by simpa using hz)
    rw [this]
    simp [Builtin.zeroCells, hz]
  · apply List.ext_getElem?
    intro i
    have key : ∀ n i, (List.replicate n z.toList).flatten[i]? = if i < n * z.size then z.toList[i % z.size]? else none := by
      intro n
      induction n with
      | zero => intro i; simp
      | succ n ih =>
        intro i
        rw [List.replicate_succ, List.flatten_cons]
        by_cases hi : i < z.size
        · rw [List.getElem?_append_left (by simpa using hi), Nat.mod_eq_of_lt hi, if_pos (by rw [Nat.succ_mul]; omega)]
        · rw [List.getElem?_append_right (by simpa using hi), ih]
          have e : (i - z.toList.length) % z.size = i % z.size := by
            rw [Array.length_toList]
            conv => rhs; rw [show i = (i - z.size) + z.size by omega, Nat.add_mod_right]
          rw [e, Array.length_toList]
          by_cases h2 : i < (n + 1) * z.size
          · rw [if_pos h2, if_pos (by rw [Nat.succ_mul] at h2; omega)]
          · rw [if_neg h2, if_neg (by rw [Nat.succ_mul] at h2; omega)]
    rw [key n i]
    by_cases hi : i < n * z.size
    · rw [if_pos hi]
      have hm : i % z.size < z.size := Nat.mod_lt _ (by omega)
      simp [Builtin.zeroCells, hi, hm, getElem!_pos]
    · rw [if_neg hi]
      simp [Builtin.zeroCells]; omega
theorem opMakeSl_run (hD : DataOk D) {mu : Bool} {t : TypeId} {l c v : AV D.E} {l' c' : Value} (h : (opMakeSl P D cd mu s t l c).H (v, s')) (hl : VR M l l') (hc : VR M c c') (hS : Sim M s.h.get w) (hf : Fresh M s.nx s'.nx) : Res s M w ((Instr.makeSlice t l' c').run P w) v s' := by
  obtain ⟨d, hd, h1⟩ := bnd_H.1 h
  obtain ⟨e, he, h2⟩ := bnd_H.1 h1
  obtain ⟨kl, n, hn, h3⟩ := bnd2_H.1 h2
  obtain ⟨hkl, h3a⟩ := bB_H.1 h3
  obtain ⟨kc, m, hm, h4⟩ := bnd2_H.1 h3a
  obtain ⟨hkc, h4a⟩ := bB_H.1 h4
  obtain ⟨cc, hcc, h5⟩ := bnd_H.1 h4a
  obtain rfl := kEq_iff.1 hkl
  obtain rfl := kEq_iff.1 hkc
  obtain ⟨by_, hby, h6⟩ := bnd_H.1 h5
  obtain ⟨z, hz, h7⟩ := bnd_H.1 h6
  obtain ⟨hzk, h8⟩ := bB_H.1 h7
  obtain ⟨hb64, h9⟩ := bB_H.1 h8
  obtain ⟨x, hx, h10⟩ := bnd_H.1 h9
  obtain ⟨hn0, h11⟩ := ask_H.1 h10
  obtain ⟨hnm, h12⟩ := ask_H.1 h11
  obtain ⟨hfit, h13⟩ := ask_H.1 h12
  rw [und_H] at hd
  obtain ⟨hsz, hk1⟩ := codeOf_H hcc
  obtain ⟨rfl, hnr⟩ := asI_VR hn hl
  obtain ⟨rfl, hmr⟩ := asI_VR hm hc
  have hn0' : 0 ≤ n := of_decide_eq_true hn0
  have hnm' : n ≤ m := of_decide_eq_true hnm
  obtain ⟨n', rfl⟩ : ∃ k : Nat, n = k := ⟨n.toNat, by omega⟩
  obtain ⟨m', rfl⟩ : ∃ k : Nat, m = k := ⟨m.toNat, by omega⟩
  have hfit' := fits_le hfit
  have hd' : P.underlying t = some (.slice e) := by cases d <;> first | (cases ret_H.1 he; exact hd) | exact he.elim
  obtain ⟨it, z', hit, hzz, hzv⟩ := zeroOf_H hz
  obtain ⟨i, hi, hib⟩ := byOf_some (ofO_H.1 hby)
  rw [hit] at hi; cases hi
  rw [beq_nat, lLen_eq] at hzk
  have hmax : m' ≤ 9223372036854775807 := by
    rw [inR_iff] at hmr
    simp only [kMn, kMx] at hmr
    omega
  have hlr := decR_LR hD hx (cellsV_LR (hzv M))
  have hzsz : z'.cells.size = D.size cc := by rw [← Array.length_toList, ← (cellsV_LR (hzv M)).1, hzk]
  have hCs : (Builtin.zeroCells z'.cells m').size = m' * D.size cc := by rw [zeroCells_size, hzsz]
  have hCl : LR M (rowsC cc (List.replicate m' x)) (Builtin.zeroCells z'.cells m').toList := by
    rw [zeroCells_flat]
    exact rowsC_rep hD hlr m'
  have hpre : ∀ (k : Nat), k ≤ m' → ∀ (i : Nat) (u : AV D.E), (rowsC cc (List.replicate k x))[i]? = some u → ∃ u', (Builtin.zeroCells z'.cells m')[i]? = some u' ∧ VR M u u' := fun k hk i u hu => by
    have e1 : rowsC cc (List.replicate m' x) = rowsC cc (List.replicate k x) ++ rowsC cc (List.replicate (m' - k) x) := by
      rw [← rowsC_app, List.replicate_append_replicate, show k + (m' - k) = m' by omega]
    obtain ⟨v', q1, q2⟩ := hCl.get (i := i) (v := u) (by rw [e1, List.getElem?_append_left (List.getElem?_eq_some_iff.1 hu).1]; exact hu)
    exact ⟨v', by rw [← Array.getElem?_toList]; exact q1, q2⟩
  have hwl : IntKind.i64.wrap (n' : Int) = (n' : Int) := IntWalk.i64_in _ (by omega)
  have hwc : IntKind.i64.wrap (m' : Int) = (m' : Int) := IntWalk.i64_in _ (by omega)
  have hti : (typeInfo e).run P w = .ok it w := by simp [typeInfo, hit]
  have hmulI : ((by_ : Int) * (m' : Int)) = ((by_ * m' : Nat) : Int) := by simp
  have hmulc : m' * by_ = by_ * m' := Nat.mul_comm _ _
  have hcond : ((decide ((m' : Int) < 0) || decide ((by_ : Int) * (m' : Int) > 2 ^ 48)) || decide ((n' : Int) < 0) || decide ((n' : Int) > (m' : Int))) = false := by
    rw [hmulI]
    simp only [Bool.or_eq_false_iff, decide_eq_false_iff_not]
    refine ⟨⟨⟨by omega, ?_⟩, by omega⟩, by omega⟩
    omega
  have hroom : (askRoom (m' * by_)).run P w = .ok () w := by
    have hrb : roomBytes = 140737488355328 := rfl
    have : ¬ (m' * by_ > roomBytes) := by rw [hrb]; omega
    unfold askRoom
    rw [if_neg this]
    rfl
  have hrun : (Instr.makeSlice t (.int .i64 (n' : Int)) (.int .i64 (m' : Int))).run P w = .ok (.slice (some ⟨w.heap.size, 0, none⟩) n' m') (w.alloc (.cells (Builtin.zeroCells z'.cells m') e)) := by
    subst hib
    have hnr : (Go.newRow e (Builtin.zeroCells z'.cells m')).run P w = .ok ⟨w.heap.size, 0, none⟩ (w.alloc (.cells (Builtin.zeroCells z'.cells m') e)) := by
      simp [Go.newRow, newObj, Sem.run]
    by_cases h0 : m' * D.size cc = 0
    · have hz0 : Builtin.zeroCells z'.cells m' = #[] := by apply Array.eq_empty_of_size_eq_zero; rw [hCs, h0]
      rw [hz0] at hnr ⊢
      simp only [Instr.makeSlice, Sem.run_bind, run_underlying hd', Result.andThen_ok, Go.asInt, asIntOf, Sem.run_pure, hti, hwl, hwc, hcond, Bool.false_eq_true, if_false, Int.toNat_natCast, hroom, run_size hsz, h0, if_true]
      simp [Array.range_zero', hnr]
    · have e2 : (Array.range (m' * D.size cc)).map (fun i => z'.cells[i % z'.cells.size]!) = Builtin.zeroCells z'.cells m' := by simp [Builtin.zeroCells, hzsz]
      simp only [Instr.makeSlice, Sem.run_bind, run_underlying hd', Result.andThen_ok, Go.asInt, asIntOf, Sem.run_pure, hti, hwl, hwc, hcond, Bool.false_eq_true, if_false, Int.toNat_natCast, hroom, run_size hsz, if_neg h0, run_zero hit hzz, e2, hnr]
  have go : ∀ (mu2 : Bool) (k : Nat), (newRow D mu2 s cc (List.replicate k x) e).H (v, s') → k ≤ m' → k = n' → Res s M w ((Instr.makeSlice t (.int .i64 (n' : Int)) (.int .i64 (m' : Int))).run P w) v s' := fun mu2 k hk hkm hkn => by
    obtain ⟨M', k1, k2⟩ := newRow_run (w := w) (w' := w.alloc (.cells (Builtin.zeroCells z'.cells m') e)) (C := Builtin.zeroCells z'.cells m') (fz := (0, 0)) (cap := m') hD hk hS hf (by simp) (fun c hc => Below.heap_alloc _ _ _ hc) (by show (w.heap.push _)[w.heap.size]? = _; simp) (.inl rfl) rfl rfl rfl
      (hpre k hkm) hCs (by simp; exact hkm) (by simp; omega)
    refine ⟨M', _, _, hrun, ?_, k2⟩
    rw [List.length_replicate, hkn] at k1
    exact k1
  rcases bE_H.1 h13 with ⟨hz0, h14⟩ | ⟨_, h14⟩
  · have hzero : n' = 0 := by
      rw [and_iff2] at hz0
      have h15 := hz0.1
      unfold isZ0 at h15
      split at h15
      · rename_i k0 n0
        have := asI_VR hn hl
        cases ret_H.1 hn
        rw [iEq_eq] at h15
        simp [zI] at h15
        omega
      · cases h15
    exact go false 0 h14 (Nat.zero_le _) hzero.symm
  · have e3 : lrep (n' : Int) x = List.replicate n' x := by simp [lrep]
    rw [e3] at h14
    exact go true n' h14 (by omega) rfl
theorem opNew_run {e : TypeId} {cs : List (AV D.E)} {C : Array Value} {v : AV D.E} (h : (opNew D s e cs).H (v, s')) (hS : Sim M s.h.get w) (hf : Fresh M s.nx s'.nx) (hl : LR M cs C.toList) :
    Res s M w ((do pure (Value.pointer (some (← Go.newRow e C))) : Sem Value).run P w) v s' := by
  obtain ⟨_, h0⟩ := bB_H.1 h
  obtain ⟨b, s2, h1, h2⟩ := bnd2_H.1 h0
  cases ret_H.1 h2
  obtain ⟨rfl, g1, g2⟩ := new_H h1
  have hf' : M.pl s.nx = none := hf _ (Nat.le_refl _) (by omega)
  let mi : MI := ⟨w.heap.size, 0, C.size, 0, 0, true⟩
  have hle := Pm.add_le (mi := mi) hf'
  have hst := Stp.alloc (o := .cells cs e false) (ob := .cells C e) (mi := mi) hS hf' rfl ⟨rfl, C, (0, 0), by show (w.heap.push _)[w.heap.size]? = _; simp, rfl, by show 0 + cs.length ≤ C.size; rw [hl.1, Array.length_toList]; omega, fun i u hu => by
    obtain ⟨u', a1, a2⟩ := hl.get hu
    exact ⟨u', by show C[0 + i]? = _; rw [Nat.zero_add, ← Array.getElem?_toList]; exact a1, a2.mono hle⟩, fun _ => .inl rfl⟩
  refine ⟨M.add s.nx mi, .pointer (some ⟨w.heap.size, 0, none⟩), _, by simp [Go.newRow, newObj, Sem.run]; rfl, ?_, by rw [g1, g2]; exact hst⟩
  exact VR.ptr (mi := mi) (o := 0) (by simp [Pm.add]) rfl
theorem clearTo_run (hD : DataOk D) {t ty e : TypeId} {b o n k : Nat} {v : AV D.E} {z : AV D.E} {z' x' : Value} {it : TypeInfo} {ts : Array TypeId} {vs : Array Value} (h : (clearTo D s b (o : Int) (n : Int) k (cellsV z)).H (v, s')) (hd : At M b o n x') (hS : Sim M s.h.get w)
    (ht : P.underlying t = some (.slice e)) (hit : P.info? e = some it) (hzz : it.zero = some z') (hzv : VR M z z') (h0 : ts[0]? = some t) (h1 : vs[0]? = some x') : Res s M w ((Builtin.clear_ ts ty vs).run P w) v s' := by
  have htu : VR M (undef : AV D.E) (.tuple #[]) := .tuple rfl (fun i v v' e => by cases e)
  obtain ⟨⟨c, xs, e2, ro⟩, ha, h3⟩ := bnd_H.1 h
  have hb := arrAt_H ha
  obtain ⟨hzl, h4⟩ := bB_H.1 h3
  obtain ⟨_, h5⟩ := bB_H.1 h4
  obtain ⟨y, hy, h6⟩ := bnd_H.1 h5
  cases ro with
  | true => exact h6.elim
  | false =>
    obtain ⟨s2, hset, h7⟩ := bnd_H.1 (show (bnd (s.set b (some (.arr c (lover xs (o : Int) (n : Int) (lrep (n : Int) y)) e2 false))) fun s => .ret (undef, s)).H (v, s') from h6)
    cases ret_H.1 h7
    obtain ⟨g1, g2⟩ := set_H hset
    obtain ⟨mi, hm, hd2⟩ := hd
    obtain ⟨mi', hm', hl, hes, hcl⟩ := hS.obj b _ hb
    rw [hm] at hm'; cases hm'
    simp only at hl hes hb
    have e3 : lrep (n : Int) y = List.replicate n y := by simp [lrep]
    have e4 : (List.replicate n y).take n = List.replicate n y := List.take_of_length_le (by simp)
    rw [e3, lover_eq, e4] at g1
    have hlr : LR M (rowsC c (List.replicate n y)) (Builtin.zeroCells z'.cells n).toList := by
      rw [zeroCells_flat]
      exact rowsC_rep hD (decR_LR hD hy (cellsV_LR hzv)) n
    have hsame : n = 0 → s'.h.get = s.h.get := fun hn => by
      rw [g1]
      funext q
      unfold upd
      split
      · rename_i hq; rw [hq, hb, hn]; simp
      · rfl
    rcases hd2 with ⟨hr, hon, hn, cap, rfl⟩ | ⟨rfl, ad, cap, rfl⟩
    · obtain ⟨q1, q2⟩ := arr_put (P := P) hD hb hm hr hS hlr (o := o) (by simp; omega) s.nx
      cases n with
      | zero =>
        refine ⟨M, .tuple #[], w, ?_, htu, by rw [hsame rfl, g2]; exact .refl hS _⟩
        simp [Builtin.clear_, h0, h1, run_underlying ht]
      | succ n =>
        refine ⟨M, .tuple #[], _, ?_, htu, by rw [g1, g2]; exact q2⟩
        simp only [Builtin.clear_, h0, h1, Sem.run_bind, Result.andThen_ok, run_underlying ht, run_zero hit hzz, Sem.run_pure]
        rw [q1]
        rfl
    · refine ⟨M, .tuple #[], w, ?_, htu, by rw [hsame rfl, g2]; exact .refl hS _⟩
      cases ad <;> simp [Builtin.clear_, h0, h1, run_underlying ht]
/-- the whole of an array, or its beginning, or a part -/
theorem at_own {b k0 : Nat} {n : Int} {v' : Value} (h : VR M (.own b k0 n) v') : ∃ k : Nat, n = k ∧ At M b 0 k v' := by
  cases h with
  | own h hk hr hn hm hc ht => exact ⟨_, hn, _, h, .inl ⟨hr, by omega, hm, _, by rw [Nat.zero_mul, Nat.add_zero]⟩⟩
  | ownV h hk hr hn hl => exact ⟨0, hn, _, h, .inr ⟨rfl, _, _, rfl⟩⟩
theorem at_pre {b k0 : Nat} {n : Int} {v' : Value} (h : VR M (.pre b k0 n) v') : ∃ k : Nat, n = k ∧ At M b 0 k v' := by
  cases h with
  | pre h hk hr hn hm hl hc ht => exact ⟨_, hn, _, h, .inl ⟨hr, by omega, by omega, _, by rw [Nat.zero_mul, Nat.add_zero]⟩⟩
  | preV h hk hr hn hl => exact ⟨0, hn, _, h, .inr ⟨rfl, _, _, rfl⟩⟩
theorem opClear_run (hD : DataOk D) {t ty : TypeId} {x v : AV D.E} {x' : Value} {ts : Array TypeId} {vs : Array Value} (h : (opClear P D s t x).H (v, s')) (hx : VR M x x') (hS : Sim M s.h.get w) (h0 : ts[0]? = some t) (h1 : vs[0]? = some x') :
    Res s M w ((Builtin.clear_ ts ty vs).run P w) v s' := by
  obtain ⟨dt, hdt, h3⟩ := bnd_H.1 h
  obtain ⟨e, he, h4⟩ := bnd_H.1 h3
  obtain ⟨z, hz, h5⟩ := bnd_H.1 h4
  obtain ⟨k, hk, h6⟩ := bnd_H.1 h5
  rw [und_H] at hdt
  have hdt' : P.underlying t = some (.slice e) := by cases dt <;> first | (cases ret_H.1 he; exact hdt) | exact he.elim
  obtain ⟨it, z', hit, hzz, hzv⟩ := zeroOf_H hz
  cases x <;> simp only at h6 <;> (try exact h6.elim)
  case snil =>
    cases ret_H.1 h6
    cases hx
    exact Res.pure hS (v' := .tuple #[]) (by simp [Builtin.clear_, h0, h1, run_underlying hdt']) (.tuple rfl (fun i v v' e => by cases e))
  case own b k0 n =>
    obtain ⟨k, rfl, hat⟩ := at_own hx
    exact clearTo_run hD h6 hat hS hdt' hit hzz (hzv M) h0 h1
  case pre b k0 n =>
    obtain ⟨k, rfl, hat⟩ := at_pre hx
    exact clearTo_run hD h6 hat hS hdt' hit hzz (hzv M) h0 h1
  case part b k0 o n =>
    cases hx with
    | part hpl hke hr hn ho hl hm hc =>
      subst hn
      obtain ⟨o', rfl⟩ : ∃ k : Nat, o = k := ⟨o.toNat, by omega⟩
      rw [Int.toNat_natCast] at hl
      exact clearTo_run hD h6 ⟨_, hpl, .inl ⟨hr, hl, by omega, _, by rw [Int.toNat_natCast]⟩⟩ hS hdt' hit hzz (hzv M) h0 h1
    | partZ hpl hke hn ho =>
      subst hn
      obtain ⟨o', rfl⟩ : ∃ k : Nat, o = k := ⟨o.toNat, by omega⟩
      exact clearTo_run (n := 0) hD h6 ⟨_, hpl, .inr ⟨rfl, _, _, rfl⟩⟩ hS hdt' hit hzz (hzv M) h0 h1
theorem bytes_cells (hD : DataOk D) {xs : List (D.E D.bc)} {l' : List Value} (h : LR M (rowsC D.bc xs) l') : l' = (D.toB xs).map fun b => Value.int .u8 b.toNat := by
  rw [bytes_rows hD] at h
  apply List.ext_getElem?
  intro i
  cases hb : (D.toB xs)[i]? with
  | none =>
    have hl := h.1
    rw [List.length_map] at hl
    rw [List.getElem?_map, hb, Option.map_none, List.getElem?_eq_none]
    have := List.getElem?_eq_none_iff.1 hb
    omega
  | some b =>
    obtain ⟨v', h1, h2⟩ := h.get (i := i) (v := .int .u8 b.toNat) (by rw [List.getElem?_map, hb]; rfl)
    rw [h1, List.getElem?_map, hb]
    cases h2
    rfl
theorem overB_spec {l : List UInt8} : ∀ {cs : List (AV D.E)} {i : Nat} {r : List (AV D.E)} {vs' : List Value}, (overB D l cs i).H r → LR M cs vs' →
    LR M r (((l.drop i).take cs.length).map (fun b => Value.int .u8 b.toNat) ++ vs'.drop ((l.drop i).take cs.length).length)
  | [], i, r, vs', h, hl => by
    cases ret_H.1 (show (C.ret []).H r from h)
    rw [hl.nil_l]
    simpa using LR.nil
  | v :: cs, i, r, vs', h, hl => by
    obtain ⟨k, n, hv, h0⟩ := bnd2_H.1 (show (bnd2 (asI v) fun k n => bB (kEq k .u8) (bnd (overB D l cs (i + 1)) fun r => .ret (.int .u8 (iite (ilt (i : Int) (slen l)) (sat l (i : Int)) n) :: r))).H r from h)
    obtain ⟨hk, h1⟩ := bB_H.1 h0
    obtain rfl := kEq_iff.1 hk
    obtain ⟨r2, hr, h2⟩ := bnd_H.1 h1
    cases ret_H.1 h2
    obtain ⟨v', rest, rfl, hv1, hrest⟩ := hl.uncons
    have ih := overB_spec hr hrest
    obtain ⟨rfl, hin⟩ := asI_VR hv hv1
    by_cases hi : i < l.length
    · have e1 : (l.drop i).take (cs.length + 1) = l[i] :: (l.drop (i + 1)).take cs.length := by
        rw [List.drop_eq_getElem_cons hi, List.take_succ_cons]
      rw [List.length_cons, e1, List.map_cons, List.length_cons, List.drop_succ_cons, List.cons_append]
      refine .cons ?_ ih
      have e2 : iite (ilt (i : Int) (slen l)) (sat l (i : Int)) n = (l[i].toNat : Int) := by
        have : ilt (i : Int) (slen l) = true := by simp [ilt, slen, hi]
        simp only [iite, this, if_true, sat, Int.toNat_natCast]
        rw [List.getD_eq_getElem?_getD, List.getElem?_eq_getElem hi]
        rfl
      rw [e2]
      exact .int (byte_inR _)
    · have e1 : l.drop i = [] := List.drop_eq_nil_of_le (by omega)
      have e3 : l.drop (i + 1) = [] := List.drop_eq_nil_of_le (by omega)
      rw [e3] at ih
      rw [e1]
      simp only [List.take_nil, List.map_nil, List.length_nil, List.drop_zero, List.nil_append] at ih ⊢
      refine .cons ?_ ih
      have e2 : iite (ilt (i : Int) (slen l)) (sat l (i : Int)) n = n := by
        have : ilt (i : Int) (slen l) = false := by simp [ilt, slen]; omega
        simp [iite, this]
      rw [e2]
      exact .int hin
theorem storeN_nil {b o : Nat} (h : (storeN D s b o []).H s') : s'.h.get = s.h.get ∧ s'.nx = s.nx := by
  obtain ⟨cs, e, hw, h2⟩ := bnd2_H.1 h
  obtain ⟨cs', hp, h3⟩ := bnd_H.1 h2
  obtain ⟨q1, q2⟩ := set_H h3
  obtain ⟨p1, p2, p3⟩ := sPut_some (ofO_H.1 hp)
  have hb := wrAt_H hw
  have e : cs' = cs := by
    apply List.ext_getElem?
    intro i
    rw [p3]
    simp
    omega
  subst e
  refine ⟨?_, q2⟩
  rw [q1]
  funext q
  unfold upd
  split
  · rename_i hq; rw [hq, hb]
  · rfl
theorem copyA_run (hD : DataOk D) {t ty : TypeId} {d x v : AV D.E} {d' x' : Value} {ts : Array TypeId} {vs : Array Value} (h : (copyA P D cd s t d x).H (v, s')) (hd : VR M d d') (hx : VR M x x') (hS : Sim M s.h.get w) (h0 : ts[0]? = some t) (h1 : vs[0]? = some d') (h2 : vs[1]? = some x') :
    Res s M w ((Builtin.copy_ ts ty vs).run P w) v s' := by
  obtain ⟨dt, hdt, h3⟩ := bnd_H.1 h
  obtain ⟨e, he, h4⟩ := bnd_H.1 h3
  obtain ⟨c, hc, h5⟩ := bnd_H.1 h4
  rw [und_H] at hdt
  have hdt' : P.underlying t = some (.slice e) := by cases dt <;> first | (cases ret_H.1 he; exact hdt) | exact he.elim
  obtain ⟨hsz, _⟩ := codeOf_H hc
  cases d <;> simp only at h5 <;> (try exact h5.elim)
  case own b k0 n =>
    obtain ⟨k, rfl, hat⟩ := at_own hd
    exact copyTo_run hD h5 hat hx hS hdt' hsz h0 h1 h2
  case pre b k0 n =>
    obtain ⟨k, rfl, hat⟩ := at_pre hd
    exact copyTo_run hD h5 hat hx hS hdt' hsz h0 h1 h2
  case part b k0 o n =>
    cases hd with
    | part hpl hke hr hn ho hl hm hc =>
      subst hn
      obtain ⟨o', rfl⟩ : ∃ k : Nat, o = k := ⟨o.toNat, by omega⟩
      rw [Int.toNat_natCast] at hl
      exact copyTo_run hD h5 ⟨_, hpl, .inl ⟨hr, hl, by omega, _, by rw [Int.toNat_natCast]⟩⟩ hx hS hdt' hsz h0 h1 h2
    | partZ hpl hke hn ho =>
      subst hn
      obtain ⟨o', rfl⟩ : ∃ k : Nat, o = k := ⟨o.toNat, by omega⟩
      exact copyTo_run (n := 0) hD h5 ⟨_, hpl, .inr ⟨rfl, _, _, rfl⟩⟩ hx hS hdt' hsz h0 h1 h2
  case sub b o n =>
    obtain ⟨hcb, h6⟩ := bB_H.1 h5
    rw [beq_nat] at hcb
    subst hcb
    obtain ⟨hn1000, h7⟩ := bB_H.1 h6
    have hn1000 : n ≤ 1000 := ble_nat.1 hn1000
    rw [hD.b1] at hsz
    have hvn : ∀ m : Nat, m ≤ 9223372036854775807 → VR M (.int .i64 (m : Int) : AV D.E) (goInt m) := fun m hm => .int (nat_inR hm)
    by_cases hsub : ∃ b' o' n', x = .sub b' o' n'
    · obtain ⟨b', o', n', rfl⟩ := hsub
      obtain ⟨cs, hcs, h8⟩ := bnd_H.1 h7
      obtain ⟨l, hl, h9⟩ := bnd_H.1 h8
      obtain ⟨hone, h10⟩ := bB_H.1 h9
      obtain ⟨s2, hst, h11⟩ := bnd_H.1 h10
      obtain ⟨cv, hcv, h12⟩ := bnd_H.1 h11
      cases ret_H.1 h12
      have hcv := mkN_some.1 (ofO_H.1 hcv)
      subst hcv
      obtain ⟨htl, rfl⟩ := sTake_some (ofO_H.1 hl)
      rw [sDrop_eq] at hst hone htl
      rw [minN_eq] at hst hone htl ⊢
      have hmn : Nat.min n' n = min n' n := rfl
      -- what is read
      have hread : ∃ vs2, LR M ((cs.drop o').take (min n' n)) vs2 ∧ vs2.length = min n' n ∧ (Builtin.firstCells 1 (min n' n) x').run P w = .ok vs2.toArray w ∧ (∀ w2 : World, (Builtin.lenOf x').run P w2 = .ok n' w2) := by
        cases hx with
        | sub hpl hr hcc _ =>
          obtain ⟨e2, ro, hb⟩ := cellsAt_H hcs
          obtain ⟨mi', hm', _, hcl⟩ := hS.obj b' _ hb
          rw [hpl] at hm'; cases hm'
          obtain ⟨vs2, q1, q2, q3⟩ := ((hcl.rd.drop o').take (min n' n)).run (P := P)
          have hle : ((cs.drop o').take (min n' n)).length = min n' n := by rw [List.length_take]; omega
          rw [hle] at q2 q3
          exact ⟨vs2, q1, q2, by simpa [Builtin.firstCells] using q3 w rfl, fun w2 => by simp [Builtin.lenOf]⟩
        | subZ =>
          refine ⟨[], ?_, by simp, by simp [Builtin.firstCells, loadCells, loadCellsFrom], fun w2 => by simp [Builtin.lenOf]⟩
          simpa using LR.nil
      obtain ⟨vs2, q1, q2, q3, q4⟩ := hread
      have hb64 : min n' n ≤ 9223372036854775807 := by omega
      cases hd with
      | sub hpl hr hcc _ =>
        obtain ⟨r1, r2⟩ := storeN_run (P := P) hst hpl hS q1 hone
        refine ⟨M, _, _, ?_, .num (nat_inR hb64), r2⟩
        simp only [Builtin.copy_, h0, h1, h2, Sem.run_bind, Result.andThen_ok, run_underlying hdt', q4, run_size hsz, hmn, q3, Sem.run_pure]
        rw [r1]
        rfl
      | subZ =>
        have hz : min n' 0 = 0 := by omega
        rw [hz] at hst q2 q3 ⊢
        have hv0 : vs2 = [] := List.eq_nil_of_length_eq_zero q2
        subst hv0
        refine ⟨M, _, w, ?_, .num (nat_inR (Nat.zero_le _)), by rw [(storeN_nil hst).1, (storeN_nil hst).2]; exact .refl hS _⟩
        have hmn0 : Nat.min n' 0 = 0 := by rw [show Nat.min n' 0 = min n' 0 from rfl]; omega
        simp [Builtin.copy_, h0, h1, h2, run_underlying hdt', q4, run_size hsz, q3, storeCells, goInt]
    · have h8 : (bnd (rowsOf D s D.bc x) fun ys => bnd (cellsAt s b) fun cs => bnd (ofO (sTake n (sDrop o cs))) fun l => bnd (overB D (D.toB ys) l (nat_lit 0)) fun l => bnd (storeN D s b o l) fun s => .ret (.int .i64 (imin (.ofNat n) (slen (D.toB ys))), s)).H (v, s') := by
        cases x <;> first | exact h7 | exact absurd ⟨_, _, _, rfl⟩ hsub
      obtain ⟨ys, hys, h9⟩ := bnd_H.1 h8
      obtain ⟨cs, hcs, h10⟩ := bnd_H.1 h9
      obtain ⟨l, hl, h11⟩ := bnd_H.1 h10
      obtain ⟨r, hr0, h12⟩ := bnd_H.1 h11
      obtain ⟨s2, hst, h13⟩ := bnd_H.1 h12
      cases ret_H.1 h13
      obtain ⟨htl, rfl⟩ := sTake_some (ofO_H.1 hl)
      rw [sDrop_eq] at hr0 htl
      obtain ⟨news, hsr⟩ := rowsOf_run (P := P) hD hys hx hS
      have hnews := bytes_cells hD hsr.lr
      have hbl := hD.bl ys
      have hmin : Nat.min ys.length n ≤ ys.length := Nat.min_le_left _ _
      have hcells := hsr.cells (Nat.min ys.length n) hmin w rfl
      rw [hD.b1, Nat.mul_one] at hcells
      have hmn : Nat.min ys.length n = min ys.length n := rfl
      have hvi : VR M (.int .i64 (imin (Int.ofNat n) (slen (D.toB ys))) : AV D.E) (goInt (Nat.min ys.length n)) := by
        rw [show slen (D.toB ys) = ((D.toB ys).length : Int) from rfl, hbl, show Int.ofNat n = (n : Int) from rfl, imin_eq]
        exact .int (nat_inR (by rw [hmn]; omega))
      cases hd with
      | @sub _ _ _ cap0 mi hpl hr hcc _ =>
        obtain ⟨cs0, e0, hw0, k1⟩ := bnd2_H.1 hst
        obtain ⟨cs1, hp1, k2⟩ := bnd_H.1 k1
        obtain ⟨g1, g2⟩ := set_H k2
        have hb := wrAt_H hw0
        obtain ⟨e3, ro3, hb3⟩ := cellsAt_H hcs
        rw [hb] at hb3
        cases hb3
        obtain ⟨mi', hm', _, hcl⟩ := hS.obj b _ hb
        rw [hpl] at hm'; cases hm'
        obtain ⟨C, fz, c1, c2, c3, c4, c5⟩ := hcl
        obtain ⟨p1, p2, p3⟩ := sPut_some (ofO_H.1 hp1)
        obtain ⟨old, hold, hc0⟩ := ((Cls.rd ⟨C, fz, c1, c2, c3, c4, c5⟩).drop o).take n |>.list
        have hln : ((cs.drop o).take n).length = n := by rw [List.length_take]; omega
        have hov := overB_spec hr0 hold
        rw [List.drop_zero, hln] at hov
        have htk : (D.toB ys).take n = (D.toB ys).take (Nat.min ys.length n) := by
          rw [hmn, ← hbl]
          by_cases hc : n ≤ (D.toB ys).length
          · rw [Nat.min_eq_right hc]
          · rw [Nat.min_eq_left (by omega), List.take_of_length_le (by omega), List.take_of_length_le (Nat.le_refl _)]
        have hvs : ((D.toB ys).take n).map (fun b => Value.int .u8 b.toNat) = news.take (Nat.min ys.length n) := by rw [htk, List.map_take, hnews]
        rw [hvs] at hov
        have hvl : (news.take (Nat.min ys.length n)).length = Nat.min ys.length n := by
          rw [List.length_take, hnews, List.length_map, hbl]; exact Nat.min_eq_left hmin
        have htl2 : ((D.toB ys).take n).length = Nat.min ys.length n := by
          rw [htk, List.length_take, hbl]; exact Nat.min_eq_left hmin
        rw [htl2] at hov
        have hone : ∀ u ∈ news.take (Nat.min ys.length n), u.oneCell' = true := by
          rw [← hvs]
          intro u hu
          obtain ⟨q, _, rfl⟩ := List.mem_map.1 hu
          rfl
        generalize news.take (Nat.min ys.length n) = vs2 at hov hcells hvl hone
        have hk : Nat.min ys.length n ≤ n := Nat.min_le_right _ _
        generalize hkk : Nat.min ys.length n = k at hov hcells hvl hk hvi
        have hrl : r.length = n := by
          have h20 : r.length = vs2.length + (old.length - k) := by rw [hov.1]; simp
          have h21 := hold.1
          omega
        have hol : old.length = n := by rw [← hold.1, hln]
        obtain ⟨d1, d2, d3⟩ := put_stp (o1 := .cells cs1 e0 false) (q := mi.sh + o) (vs' := vs2) hS hb rfl hpl hr c1 c2 (by omega) (c5 rfl) (fun _ => trivial) (fun C' w1 w2 w3 => ⟨hr, C', fz, w1, w2.trans c2, by rw [p2]; exact c3, fun i u hi => by
          rw [p3 i] at hi
          rw [w3]
          by_cases hc : o ≤ i ∧ i < o + r.length
          · rw [if_pos hc] at hi
            obtain ⟨v', a1, a2⟩ := hov.get hi
            by_cases hik : i - o < k
            · rw [if_pos (by omega), show mi.sh + i - (mi.sh + o) = i - o by omega]
              rw [List.getElem?_append_left (by omega)] at a1
              exact ⟨v', a1, a2⟩
            · rw [if_neg (by omega)]
              rw [List.getElem?_append_right (by omega), List.getElem?_drop, hvl, show k + (i - o - k) = i - o by omega] at a1
              have := hc0 (i - o) v' a1
              refine ⟨v', ?_, a2⟩
              simp only [World.cell?, c1] at this
              rw [show mi.sh + o + (i - o) = mi.sh + i by omega] at this
              simpa using this
          · rw [if_neg hc] at hi
            rw [if_neg (by omega)]
            exact c4 i u hi, c5⟩) s.nx
        refine ⟨M, _, _, ?_, hvi, by rw [g1, g2]; exact d3⟩
        have hrun := run_storeCells_cells (P := P) mi.blk (mi.sh + o) vs2 0 w (by simpa using d1) (by simpa using d2) hone
        simp only [Builtin.copy_, h0, h1, h2, Sem.run_bind, Result.andThen_ok, run_underlying hdt', hsr.len, run_size hsz, hkk, hcells, Sem.run_pure]
        rw [show (storeCells ⟨mi.blk, mi.sh + o, none⟩ vs2.toArray.toList 0).run P w = _ from hrun]
        rfl
      | subZ =>
        have hz : Nat.min ys.length 0 = 0 := by rw [show Nat.min ys.length 0 = min ys.length 0 from rfl]; omega
        rw [hz] at hcells hvi
        rw [List.take_zero] at hcells
        have hr0' : r = [] := by
          rw [List.take_zero] at hr0
          cases ret_H.1 (show (C.ret []).H r from hr0)
          rfl
        subst hr0'
        refine ⟨M, _, w, ?_, hvi, by rw [(storeN_nil hst).1, (storeN_nil hst).2]; exact .refl hS _⟩
        simp [Builtin.copy_, h0, h1, h2, run_underlying hdt', hsr.len, run_size hsz, hcells, storeCells]
theorem dU8_eq {d : TypeDesc} (h : dU8 d = true) : d = .int .u8 := by
  cases d <;> simp only [dU8] at h <;> (try cases h)
  rename_i k
  cases k <;> first | rfl | cases h
theorem convInt_run {src dst : TypeId} {ds dd : TypeDesc} {k : IntKind} {n : Int} {cl : Bool} {v : AV D.E} (h : (convInt D dd n cl).H v) (hs : P.underlying src = some ds) (hd : P.underlying dst = some dd) : ∃ v', (∀ w, (convert src dst (.int k n)).run P w = .ok v' w) ∧ VR M v v' := by
  cases dd <;> simp only [convInt] at h <;> (try exact h.elim)
  case int kk =>
    refine ⟨.int kk (kk.wrap n), fun w => by simp [convert, run_underlying hs, run_underlying hd, Conv.intToInt], ?_⟩
    cases cl with
    | true =>
      obtain ⟨c, hc, h1⟩ := bnd_H.1 (show (bnd (ofO (mkI kk (wrapA kk n))) fun v => .ret (ofCV v)).H v from h)
      cases ret_H.1 h1
      have := ofO_H.1 hc
      rw [mkI_some, wrapA_eq] at this
      subst this
      exact .num (wrap_inR _ _)
    | false => cases ret_H.1 (show (C.ret (AV.int kk (icv kk n))).H v from h); exact .int (wrap_inR _ _)
  case string =>
    cases ret_H.1 h
    refine ⟨.string (Utf8.encode n), fun w => by simp [convert, run_underlying hs, run_underlying hd, Conv.intToString], ?_⟩
    have hl : (Utf8.encode n).data.toList.length ≤ 9223372036854775807 := by
      unfold Utf8.encode
      generalize (if Utf8.valid n = true then n.toNat else Utf8.runeError) = q
      simp only
      split
      · simp
      · split
        · simp
        · split <;> simp
    exact .str hl
theorem push_data (s : ByteArray) (b : UInt8) : (s.push b).data.toList = s.data.toList ++ [b] := by
  show (s.data.push b).toList = _
  simp
theorem bytes_forIn : ∀ (l' : List Value) (r : List UInt8) (s0 : ByteArray), l'.length = r.length → (∀ (i : Nat) (v : Value), l'[i]? = some v → ∃ m : Nat, v = .int .u8 m ∧ r[i]? = some (UInt8.ofNat m)) → ∀ w,
    ((forIn l' s0 fun c (s : ByteArray) => (match c with
      | .int .u8 n => Pure.pure (ForInStep.yield (s.push (UInt8.ofNat n.toNat)))
      | _ => do
        stuck "bytesToString: byte expected"
        Pure.pure (ForInStep.yield s) : Sem (ForInStep ByteArray)) : Sem ByteArray)).run P w = .ok ⟨⟨s0.data.toList ++ r⟩⟩ w
  | [], r, s0, hl, _, w => by
    have : r = [] := List.eq_nil_of_length_eq_zero (by simpa using hl.symm)
    subst this
    simp
  | v :: l', r, s0, hl, h, w => by
    cases r with
    | nil => simp at hl
    | cons b r =>
      obtain ⟨m, rfl, e⟩ := h 0 v rfl
      have eb : b = UInt8.ofNat m := by simpa using e
      have ih := bytes_forIn l' r (s0.push (UInt8.ofNat m)) (by simpa using hl) (fun i v hv => h (i + 1) v (by simpa using hv)) w
      rw [push_data] at ih
      simp only [List.forIn_cons, Sem.run_bind, Sem.run_pure, Result.andThen_ok, Int.toNat_natCast]
      rw [ih, eb]
      simp
theorem opConv_run (hD : DataOk D) {mu : Bool} {src dst : TypeId} {x v : AV D.E} {x' : Value} (h : (opConv P D cd mu s src dst x).H (v, s')) (hx : VR M x x') (hS : Sim M s.h.get w) (hf : Fresh M s.nx s'.nx) : Res s M w ((convert src dst x').run P w) v s' := by
  obtain ⟨ds, hds, h1⟩ := bnd_H.1 h
  obtain ⟨dd, hdd, h2⟩ := bnd_H.1 h1
  rw [und_H] at hds hdd
  -- a slice as a text
  have sl : ∀ {y : AV D.E}, y = x → (convSl P D cd s ds dd y).H (v, s') → (∀ l, x' ≠ .string l) → Res s M w ((convert src dst x').run P w) v s' := by
    intro y hy h3 hns
    subst hy
    obtain ⟨e, he, h4⟩ := bnd_H.1 h3
    have hs' : P.underlying src = some (.slice e) := by cases ds <;> first | (cases ret_H.1 he; exact hds) | exact he.elim
    cases dd <;> simp only at h4 <;> (try exact h4.elim)
    case string =>
      obtain ⟨de, hde, h5⟩ := bnd_H.1 h4
      obtain ⟨hu, h6⟩ := bB_H.1 h5
      obtain ⟨c, hc, h7⟩ := bnd_H.1 h6
      obtain ⟨hcb, h8⟩ := bB_H.1 h7
      obtain ⟨ys, hys, h9⟩ := bnd_H.1 h8
      cases ret_H.1 h9
      rw [und_H, dU8_eq hu] at hde
      obtain ⟨news, hsr⟩ := rowsOf_run (P := P) hD hys hx hS
      have hnews := bytes_cells hD hsr.lr
      have hbl := hD.bl ys
      have hcells := hsr.cells ys.length (Nat.le_refl _) w rfl
      have hnl : news.length = ys.length := by rw [hnews, List.length_map, hbl]
      rw [hD.b1, Nat.mul_one, ← hnl, List.take_length, hnl] at hcells
      have hlen := hsr.len w
      have hb := bytes_forIn (P := P) news (D.toB ys) ByteArray.empty (by rw [hnl, hbl]) (fun i v hv => by
        rw [hnews, List.getElem?_map] at hv
        cases hq : (D.toB ys)[i]? with
        | none => rw [hq] at hv; cases hv
        | some b => rw [hq] at hv; cases hv; exact ⟨b.toNat, rfl, by simp⟩) w
      have hys64 : (D.toB ys).length ≤ 9223372036854775807 := by
        rw [hbl]
        exact hsr.max
      refine Res.pure hS (v' := .string ⟨⟨D.toB ys⟩⟩) ?_ (.str hys64)
      -- the value is a slice
      cases x' <;> simp only [Builtin.lenOf] at hlen <;> (try (simp at hlen; done))
      case string l => exact absurd rfl (hns l)
      case slice ad n cap =>
        have hn : n = ys.length := by simpa using hlen
        subst hn
        cases ad with
        | none =>
          simp only [Builtin.firstCells, Sem.run_pure, Result.ok.injEq, and_true] at hcells
          have h20 : news = [] := by
            have h9 := congrArg Array.toList hcells
            simpa using h9.symm
          have h21 : D.toB ys = [] := by
            rw [h20] at hnews
            simpa using hnews.symm
          rw [h21]
          simp [convert, run_underlying hs', run_underlying hdd, run_underlying hde, Conv.bytesToString]
          rfl
        | some a0 =>
          simp only [Builtin.firstCells, Nat.mul_one] at hcells
          simp only [convert, run_underlying hs', run_underlying hdd, run_underlying hde, Conv.bytesToString, Sem.run_bind, Result.andThen_ok, hcells]
          simp only [List.forIn_toArray, Sem.run_pure]
          exact (congrArg (fun r : Result ByteArray => r.andThen fun a w' => Result.ok (Value.string a) w') hb).trans rfl
  cases x <;> simp only at h2 <;> (try (refine sl rfl h2 (fun l e => ?_); subst e; cases hx; done))
  case int k n =>
    obtain ⟨v2, hv2, h3⟩ := bnd_H.1 h2
    cases ret_H.1 h3
    cases hx
    obtain ⟨v', k1, k2⟩ := convInt_run (M := M) (k := k) hv2 hds hdd
    exact Res.pure hS (k1 w) k2
  case num k n =>
    obtain ⟨v2, hv2, h3⟩ := bnd_H.1 h2
    cases ret_H.1 h3
    cases hx
    obtain ⟨v', k1, k2⟩ := convInt_run (M := M) (k := k) hv2 hds hdd
    exact Res.pure hS (k1 w) k2
  case str l =>
    cases hx with
    | str hl =>
    replace h2 := (bB_H.1 h2).2
    cases dd <;> simp only at h2 <;> (try exact h2.elim)
    case string =>
      cases ret_H.1 h2
      refine Res.pure hS (v' := .string ⟨⟨l⟩⟩) ?_ (.str hl)
      cases ds <;> simp [convert, run_underlying hds, run_underlying hdd]
    case slice e =>
      obtain ⟨de, hde, h3⟩ := bnd_H.1 h2
      obtain ⟨hu, h4⟩ := bB_H.1 h3
      obtain ⟨c, hc, h5⟩ := bnd_H.1 h4
      obtain ⟨xs, hxs, h6⟩ := bnd_H.1 h5
      obtain ⟨rfl, hq⟩ := castL_H hxs
      cases hq
      rw [und_H, dU8_eq hu] at hde
      have hrun := Lib.run_convert_string_bytes (P := P) w src dst e ⟨⟨l⟩⟩ hds hdd hde
      have hbs : (⟨⟨l⟩⟩ : ByteArray).size = l.length := rfl
      have hol : (D.ofB l).length = l.length := by rw [← hD.bl, hD.bo]
      have hge := grownCap_ge w l.length 0 e
      have hCs : (Lib.bytesCells w e ⟨⟨l⟩⟩).size = grownCap w l.length 0 e := by
        unfold Lib.bytesCells
        rw [Array.size_append, Array.size_map, Array.size_replicate]
        show l.length + (grownCap w l.length 0 e - l.length) = _
        omega
      obtain ⟨M', k1, k2⟩ := newRow_run (w := w) (w' := Lib.bytesWorld w e ⟨⟨l⟩⟩) (C := Lib.bytesCells w e ⟨⟨l⟩⟩) (cap := grownCap w l.length 0 e) hD h6 hS hf (by rw [Lib.bytesWorld_size]; omega) (fun c hc => Lib.bytesWorld_at_old w e _ c hc) (Lib.bytesWorld_at_new w e _) (.inr (Nat.le_refl _)) rfl rfl rfl
        (fun i u hu => by
          rw [bytes_rows hD, hD.bo, List.getElem?_map] at hu
          cases hb : l[i]? with
          | none => rw [hb] at hu; cases hu
          | some b =>
            rw [hb] at hu
            cases hu
            have hi := (List.getElem?_eq_some_iff.1 hb).1
            refine ⟨.int .u8 b.toNat, ?_, .int (byte_inR b)⟩
            unfold Lib.bytesCells
            rw [Array.getElem?_append_left (by rw [Array.size_map]; exact hi), Array.getElem?_map]
            show (l.toArray[i]?).map _ = _
            rw [List.getElem?_toArray, hb]
            rfl) (by rw [hCs, hD.b1, Nat.mul_one]) (by rw [hol]; exact hge) (by rw [hol]; exact hl)
      refine ⟨M', _, _, hrun, ?_, k2⟩
      rw [hol] at k1
      exact k1
end
end Go.Proofs.YtjdehneddakpnaaGreatDoor.sx
namespace Go.Proofs.YtjdehneddakpnaaGreatDoor.sx
open Go Go.RowKit
section
variable {P : Program} {D : Data} {cd : TypeId → Option Nat} {M M' : Pm D} {φ : T (AV D.E)} {a : Act} {N : Nat} {w w' : World} {H : Hp D} {s s' : St D.E}
/-- An optional value. -/
def OVR (M : Pm D) (x : Option (AV D.E)) (x' : Option Value) : Prop := (x = none ∧ x' = none) ∨ ∃ u u', x = some u ∧ x' = some u' ∧ VR M u u'
theorem OVR.map {x : Option Operand} {v : Option (AV D.E)} (h : (evO P D φ x).H v) (hf : FR M φ a N) : OVR M v (x.map a.eval) := by
  cases x with
  | none => cases ret_H.1 (show (C.ret none).H v from h); exact .inl ⟨rfl, rfl⟩
  | some y =>
    obtain ⟨u, hu, h1⟩ := bnd_H.1 (show (bnd (ev P D φ y) fun v => .ret (some v)).H v from h)
    cases ret_H.1 h1
    exact .inr ⟨u, _, rfl, rfl, ev_VR hu hf⟩
theorem sliceBound_run {k : IntKind} {m y : Nat} (h : m ≤ y) (code : BoundsCode) (w : World) : (Instr.sliceBound (.int k (m : Int)) y code).run P w = .ok m w := by
  have h2 : 0 ≤ (m : Int) ∧ (m : Int) ≤ (y : Int) := ⟨by omega, by omega⟩
  simp only [Instr.sliceBound, asIntOf, Sem.run_bind, Sem.run_pure, Result.andThen_ok, if_pos h2, Int.toNat_natCast]
theorem sliceBounds_run {b : Bool} {len cap l h m : Nat} {lo hi mx : Option Value} (hm : (mx = none ∧ m = cap) ∨ ∃ k, mx = some (.int k (m : Int)) ∧ m ≤ cap)
    (hh : (hi = none ∧ mx = none ∧ h = len) ∨ ∃ k, hi = some (.int k (h : Int)) ∧ h ≤ m) (hl : (lo = none ∧ l = 0) ∨ ∃ k, lo = some (.int k (l : Int)) ∧ l ≤ h) (w : World) :
    (Instr.sliceBounds b len cap lo hi mx).run P w = .ok (l, h, m) w := by
  rcases hm with ⟨rfl, rfl⟩ | ⟨k1, rfl, hm⟩ <;> rcases hh with ⟨rfl, h0, rfl⟩ | ⟨k2, rfl, hh⟩ <;> rcases hl with ⟨rfl, rfl⟩ | ⟨k3, rfl, hl⟩
  all_goals first
    | (cases h0; done)
    | (simp only [Instr.sliceBounds, Sem.run_bind, Sem.run_pure, Result.andThen_ok, sliceBound_run hm, sliceBound_run hh, sliceBound_run hl])
    | (simp only [Instr.sliceBounds, Sem.run_bind, Sem.run_pure, Result.andThen_ok, sliceBound_run hm, sliceBound_run hh])
    | (simp only [Instr.sliceBounds, Sem.run_bind, Sem.run_pure, Result.andThen_ok, sliceBound_run hh, sliceBound_run hl])
    | (simp only [Instr.sliceBounds, Sem.run_bind, Sem.run_pure, Result.andThen_ok, sliceBound_run hh])
    | (simp only [Instr.sliceBounds, Sem.run_bind, Sem.run_pure, Result.andThen_ok, sliceBound_run hl])
    | (simp only [Instr.sliceBounds, Sem.run_bind, Sem.run_pure, Result.andThen_ok])
theorem run_slice_sl {t e : TypeId} {size len cap l h m : Nat} {base : Option Addr} {lo hi mx : Option Value} (ht : P.underlying t = some (.slice e)) (hs : szOf P e = some size)
    (hb : ∀ w, (Instr.sliceBounds true len cap lo hi mx).run P w = .ok (l, h, m) w) (w : World) :
    (Instr.sliceAt t (.slice base len cap) lo hi mx).run P w = .ok (.slice (if m = l then base else base.map (·.add (l * size))) (h - l) (m - l)) w := by
  simp only [Instr.sliceAt, Sem.run_bind, run_underlying ht, Result.andThen_ok, Instr.slice, hb, run_size hs, Sem.run_pure]
/-- What the places of a cut of a list come to. -/
theorem cutL_run {α : Type} {xs r : List α} {lo hi mx : Option (AV D.E)} {lo' hi' mx' : Option Value} (h : (cutL D xs lo hi mx).H r) (hlo : OVR M lo lo') (hhi : OVR M hi hi') (hmx : OVR M mx mx') : ∃ l hn : Nat, l ≤ hn ∧ hn ≤ xs.length ∧ r = (xs.take hn).drop l ∧
    ∀ cap, xs.length ≤ cap → ∃ m, hn ≤ m ∧ m ≤ cap ∧ ∀ (b : Bool) (w : World), (Instr.sliceBounds b xs.length cap lo' hi' mx').run P w = .ok (l, hn, m) w := by
  obtain ⟨_, h1, h2⟩ := bnd_H.1 h
  obtain ⟨ys, h3, h4⟩ := bnd_H.1 h2
  -- the second place
  obtain ⟨hn, hle, rfl, hhi2⟩ : ∃ hn : Nat, hn ≤ xs.length ∧ ys = xs.take hn ∧ ((hi = none ∧ hi' = none ∧ hn = xs.length) ∨ ∃ k u, hi = some u ∧ hi' = some (.int k (hn : Int)) ∧ ∀ k2 n2, (asI u).H (k2, n2) → n2 = hn) := by
    rcases hhi with ⟨rfl, rfl⟩ | ⟨u, u', rfl, rfl, hu⟩
    · cases ret_H.1 (show (C.ret xs).H ys from h3)
      exact ⟨xs.length, Nat.le_refl _, by simp, .inl ⟨rfl, rfl, rfl⟩⟩
    · obtain ⟨k, n, h5, h6⟩ := bnd2_H.1 (show (bnd2 (asI u) fun _ h => ask (ile zI h) (ask (ile h (llen xs)) (.ret (ltake xs h)))).H ys from h3)
      obtain ⟨h7, h8⟩ := ask_H.1 h6
      obtain ⟨h9, h10⟩ := ask_H.1 h8
      cases ret_H.1 h10
      obtain ⟨rfl, _⟩ := asI_VR h5 hu
      have h7' : 0 ≤ n := of_decide_eq_true h7
      have h9' : n ≤ (xs.length : Int) := of_decide_eq_true h9
      obtain ⟨n', rfl⟩ : ∃ q : Nat, n = q := ⟨n.toNat, by omega⟩
      exact ⟨n', by omega, by simp [ltake], .inr ⟨k, u, rfl, rfl, fun k2 n2 h11 => by
        have := H_one h5 h11
        simp only [Prod.mk.injEq] at this
        exact this.2.symm⟩⟩
  obtain ⟨l, hll, rfl, hlo2⟩ : ∃ l : Nat, l ≤ hn ∧ r = (xs.take hn).drop l ∧ ((lo' = none ∧ l = 0) ∨ ∃ k, lo' = some (.int k (l : Int)) ∧ l ≤ hn) := by
    have hlen : (xs.take hn).length = hn := by rw [List.length_take]; omega
    rcases hlo with ⟨rfl, rfl⟩ | ⟨u, u', rfl, rfl, hu⟩
    · cases ret_H.1 (show (C.ret (xs.take hn)).H r from h4)
      exact ⟨0, Nat.zero_le _, by simp, .inl ⟨rfl, rfl⟩⟩
    · obtain ⟨k, n, h5, h6⟩ := bnd2_H.1 (show (bnd2 (asI u) fun _ l => ask (ile zI l) (ask (ile l (llen (xs.take hn))) (.ret (ldrop (xs.take hn) l)))).H r from h4)
      obtain ⟨h7, h8⟩ := ask_H.1 h6
      obtain ⟨h9, h10⟩ := ask_H.1 h8
      cases ret_H.1 h10
      obtain ⟨rfl, _⟩ := asI_VR h5 hu
      have h7' : 0 ≤ n := of_decide_eq_true h7
      have h9' : n ≤ ((xs.take hn).length : Int) := of_decide_eq_true h9
      rw [hlen] at h9'
      obtain ⟨n', rfl⟩ : ∃ q : Nat, n = q := ⟨n.toNat, by omega⟩
      exact ⟨n', by omega, by simp [ldrop], .inr ⟨k, rfl, by omega⟩⟩
  refine ⟨l, hn, hll, hle, rfl, fun cap hcap => ?_⟩
  rcases hmx with ⟨rfl, rfl⟩ | ⟨u, u', rfl, rfl, hu⟩
  · refine ⟨cap, by omega, Nat.le_refl _, fun b w => sliceBounds_run (.inl ⟨rfl, rfl⟩) ?_ hlo2 w⟩
    rcases hhi2 with ⟨_, e2, e3⟩ | ⟨k, _, _, e, _⟩
    · exact .inl ⟨e2, rfl, e3⟩
    · exact .inr ⟨k, e, by omega⟩
  · obtain ⟨k, m, h5, h6⟩ := bnd2_H.1 (show (bnd2 (asI u) fun _ m => bnd (ofO hi) fun hi => bnd2 (asI hi) fun _ h => ask (ile h m) (ask (ile m (llen xs)) (.ret ()))).H _ from h1)
    obtain ⟨u2, h7, h8⟩ := bnd_H.1 h6
    obtain ⟨k2, n2, h9, h10⟩ := bnd2_H.1 h8
    obtain ⟨h11, h12⟩ := ask_H.1 h10
    obtain ⟨h13, _⟩ := ask_H.1 h12
    obtain ⟨rfl, _⟩ := asI_VR h5 hu
    have h13' : m ≤ (xs.length : Int) := of_decide_eq_true h13
    have h11' : n2 ≤ m := of_decide_eq_true h11
    rcases hhi2 with ⟨e1, _, _⟩ | ⟨k3, u3, e1, e2, e3⟩
    · rw [ofO_H, e1] at h7; cases h7
    · rw [ofO_H, e1] at h7; cases h7
      have := e3 k2 n2 h9
      subst this
      obtain ⟨m', rfl⟩ : ∃ q : Nat, m = q := ⟨m.toNat, by omega⟩
      exact ⟨m', by omega, by omega, fun b w => sliceBounds_run (.inr ⟨k, rfl, by omega⟩) (.inr ⟨k3, e2, by omega⟩) hlo2 w⟩
theorem boundI_run {x : Option (AV D.E)} {x' : Option Value} {d hi m : Int} (h : (boundI D x d hi).H m) (hx : OVR M x x') : (x = none ∧ x' = none ∧ m = d) ∨ ∃ (k : IntKind) (q : Nat), m = q ∧ x' = some (.int k (q : Int)) ∧ m ≤ hi := by
  rcases hx with ⟨rfl, rfl⟩ | ⟨u, u', rfl, rfl, hu⟩
  · cases ret_H.1 (show (C.ret d).H m from h); exact .inl ⟨rfl, rfl, rfl⟩
  · obtain ⟨k, n, h5, h6⟩ := bnd2_H.1 (show (bnd2 (asI u) fun _ m => ask (ile zI m) (ask (ile m hi) (.ret m))).H m from h)
    obtain ⟨h7, h8⟩ := ask_H.1 h6
    obtain ⟨h9, h10⟩ := ask_H.1 h8
    cases ret_H.1 h10
    obtain ⟨rfl, _⟩ := asI_VR h5 hu
    have h7' : 0 ≤ m := of_decide_eq_true h7
    obtain ⟨n', rfl⟩ : ∃ q : Nat, m = q := ⟨m.toNat, by omega⟩
    exact .inr ⟨k, n', rfl, rfl, of_decide_eq_true h9⟩
theorem boundN_run {x : Option (AV D.E)} {x' : Option Value} {d hi m : Nat} (h : (boundN D x d hi).H m) (hx : OVR M x x') : (x = none ∧ x' = none ∧ m = d) ∨ ∃ k, x' = some (.int k (m : Int)) ∧ m ≤ hi ∧ x ≠ none := by
  rcases hx with ⟨rfl, rfl⟩ | ⟨u, u', rfl, rfl, hu⟩
  · cases ret_H.1 (show (C.ret d).H m from h); exact .inl ⟨rfl, rfl, rfl⟩
  · obtain ⟨n, hn, h1⟩ := bnd_H.1 (show (bnd (asN u) fun m => bB (Nat.ble m hi) (.ret m)).H m from h)
    obtain ⟨h2, h3⟩ := bB_H.1 h1
    cases ret_H.1 h3
    obtain ⟨k, rfl⟩ := asN_VR hn hu
    exact .inr ⟨k, rfl, ble_nat.1 h2, by simp⟩
theorem isZ_zero {lo : Option (AV D.E)} {_lo' : Option Value} {l : Int} {hi : Int} (h : isZ D lo = true) (hb : (boundI D lo zI hi).H l) : l = 0 := by
  cases lo with
  | none => exact (ret_H.1 (show (C.ret zI).H l from hb)).symm
  | some v =>
    obtain ⟨k, n, h5, h6⟩ := bnd2_H.1 (show (bnd2 (asI v) fun _ m => ask (ile zI m) (ask (ile m hi) (.ret m))).H l from hb)
    obtain ⟨_, h8⟩ := ask_H.1 h6
    obtain ⟨_, h10⟩ := ask_H.1 h8
    cases ret_H.1 h10
    cases v <;> simp only [isZ] at h <;> (try cases h)
    case num k2 n2 =>
      cases ret_H.1 h5
      rw [iEq_eq] at h
      simpa [zI] using h
theorem map_addA {b o n : Nat} : (some (⟨b, o, none⟩ : Addr)).map (·.add n) = some ⟨b, o + n, none⟩ := by rw [Option.map_some, addA]
/-- a cut of an array of the call's own -/
theorem own_cut {t e : TypeId} {k : Nat} {len cap : Nat} {base : Option Addr} {lo hi mx : Option (AV D.E)} {lo' hi' mx' : Option Value} {h l : Int} (ht : P.underlying t = some (.slice e)) (hs : szOf P e = some k) (hmx : OVR M mx mx') (hm : mx = none) (hh : (boundI D hi (len : Int) (len : Int)).H h) (hl : (boundI D lo zI h).H l)
    (hlo : OVR M lo lo') (hhi : OVR M hi hi') (hcap : len ≤ cap) : ∃ hn ln : Nat, h = hn ∧ l = ln ∧ ln ≤ hn ∧ hn ≤ len ∧ ∀ w, (Instr.sliceAt t (.slice base len cap) lo' hi' mx').run P w = .ok (.slice (if cap = ln then base else base.map (·.add (ln * k))) (hn - ln) (cap - ln)) w := by
  have hmx' : mx' = none := by rcases hmx with ⟨_, e⟩ | ⟨u, u', e, _⟩; exact e; rw [hm] at e; cases e
  subst hmx'
  obtain ⟨hn, rfl, hnl, hh2⟩ : ∃ hn : Nat, h = hn ∧ hn ≤ len ∧ ((hi' = none ∧ hn = len) ∨ ∃ q, hi' = some (.int q (hn : Int))) := by
    rcases boundI_run hh hhi with ⟨_, e2, rfl⟩ | ⟨q, hn, rfl, e2, e3⟩
    · exact ⟨len, rfl, Nat.le_refl _, .inl ⟨e2, rfl⟩⟩
    · exact ⟨hn, rfl, by omega, .inr ⟨q, e2⟩⟩
  obtain ⟨ln, rfl, hll, hl2⟩ : ∃ ln : Nat, l = ln ∧ ln ≤ hn ∧ ((lo' = none ∧ ln = 0) ∨ ∃ q, lo' = some (.int q (ln : Int)) ∧ ln ≤ hn) := by
    rcases boundI_run hl hlo with ⟨_, e2, rfl⟩ | ⟨q, ln, rfl, e2, e3⟩
    · exact ⟨0, rfl, Nat.zero_le _, .inl ⟨e2, rfl⟩⟩
    · exact ⟨ln, rfl, by omega, .inr ⟨q, e2, by omega⟩⟩
  refine ⟨hn, ln, rfl, rfl, hll, hnl, fun w => ?_⟩
  exact run_slice_sl ht hs (fun w => sliceBounds_run (.inl ⟨rfl, rfl⟩) (by
    rcases hh2 with ⟨e2, e3⟩ | ⟨q, e2⟩
    · exact .inl ⟨e2, rfl, e3⟩
    · exact .inr ⟨q, e2, by omega⟩) hl2 w) w
theorem sliceA_run (_hD : DataOk D) {t : TypeId} {x v : AV D.E} {x' : Value} {lo hi mx : Option (AV D.E)} {lo' hi' mx' : Option Value} (h : (sliceA P D t x lo hi mx).H v) (hx : VR M x x') (hlo : OVR M lo lo') (hhi : OVR M hi hi') (hmx : OVR M mx mx') :
    ∃ v', (∀ w, (Instr.sliceAt t x' lo' hi' mx').run P w = .ok v' w) ∧ VR M v v' := by
  obtain ⟨d, hd, h1⟩ := bnd_H.1 h
  rw [und_H] at hd
  cases d <;> simp only at h1 <;> (try exact h1.elim)
  case string =>
    obtain ⟨hmn, h2⟩ := bB_H.1 h1
    obtain ⟨l, hl, h3⟩ := bnd_H.1 h2
    obtain ⟨r, hr, h4⟩ := bnd_H.1 h3
    cases ret_H.1 h4
    obtain ⟨rfl, hl64⟩ := asStr_VR hl hx
    obtain ⟨ln, hn, hln, hnl, rfl, hbb⟩ := cutL_run (P := P) hr hlo hhi hmx
    obtain ⟨m, _, _, hb⟩ := hbb l.length (Nat.le_refl _)
    have hmx0 : mx' = none := by
      rcases hmx with ⟨_, e⟩ | ⟨u, u', e, _⟩
      · exact e
      · rw [e] at hmn; cases hmn
    subst hmx0
    refine ⟨.string ⟨⟨(l.take hn).drop ln⟩⟩, fun w => ?_, .str (by rw [List.length_drop, List.length_take]; omega)⟩
    have hsz : (⟨⟨l⟩⟩ : ByteArray).size = l.length := rfl
    simp only [Instr.sliceAt, Sem.run_bind, run_underlying hd, Result.andThen_ok, Instr.slice, Option.isSome_none, Bool.false_eq_true, if_false, hsz, hb, Sem.run_pure, extract_str ⟨⟨l⟩⟩ ln hn hln hnl]
    rw [show (l.take hn).drop ln = (l.drop ln).take (hn - ln) from List.drop_take]
  case slice e =>
    obtain ⟨k, hk, h2⟩ := bnd_H.1 h1
    rw [sz_H] at hk
    -- a list that is only read
    have lst : ∀ {c b o cap : Nat} {xs r : List (D.E c)}, k = D.size c → (cutL D xs lo hi mx).H r → Sealed M b o c xs → xs.length ≤ 9223372036854775807 → xs.length ≤ cap → ∃ v', (∀ w, (Instr.sliceAt t (.slice (some ⟨b, o, none⟩) xs.length cap) lo' hi' mx').run P w = .ok v' w) ∧ VR M (.list c r) v' := by
      intro c b o cap xs r hkc hr hsl hm hc
      obtain ⟨ln, hn, hln, hnl, rfl, hbb⟩ := cutL_run (P := P) hr hlo hhi hmx
      obtain ⟨m, hm1, hm2, hb⟩ := hbb cap hc
      refine ⟨_, fun w => run_slice_sl hd hk (hb true) w, ?_⟩
      have hlen : ((xs.take hn).drop ln).length = hn - ln := by rw [List.length_drop, List.length_take]; omega
      by_cases hml : m = ln
      · have h0 : hn - ln = 0 := by omega
        have he : (xs.take hn).drop ln = [] := List.eq_nil_of_length_eq_zero (by omega)
        rw [he, h0]
        exact .listZ
      · rw [if_neg hml, map_addA, ← hlen]
        refine .list (fun i hi j u hu => ?_) (by omega) (by omega)
        have hi2 : ln + i < xs.length := by omega
        have hg : ((xs.take hn).drop ln)[i] = xs[ln + i] := by simp
        rw [hg] at hu
        have := hsl (ln + i) hi2 j u hu
        rw [← this, hkc]
        congr 1
        rw [Nat.add_mul]
        omega
    have emp : ∀ {c cap : Nat} {ad : Option Addr} {r : List (D.E c)}, (cutL D ([] : List (D.E c)) lo hi mx).H r → ∃ v', (∀ w, (Instr.sliceAt t (.slice ad 0 cap) lo' hi' mx').run P w = .ok v' w) ∧ VR M (.list c r) v' := by
      intro c cap ad r hr
      obtain ⟨ln, hn, hln, hnl, rfl, hbb⟩ := cutL_run (P := P) hr hlo hhi hmx
      obtain ⟨m, hm1, hm2, hb⟩ := hbb cap (Nat.zero_le _)
      refine ⟨_, fun w => run_slice_sl hd hk (hb true) w, ?_⟩
      have h0 : hn - ln = 0 := by simp at hnl; omega
      rw [h0]
      simp only [List.take_nil, List.drop_nil]
      exact .listZ
    -- arrays of the call's own
    have ownc : ∀ {b : Nat} {len cap : Nat} {mi : MI} {h0 l0 : Int}, M.pl b = some mi → mi.esz = k → mi.real = true → len ≤ mi.len → mi.len ≤ 9223372036854775807 → mi.len ≤ cap → mi.sh + cap * mi.esz = mi.tot → Option.isNone mx = true → (boundI D hi (len : Int) (len : Int)).H h0 → (boundI D lo zI h0).H l0 →
        ∃ v', (∀ w, (Instr.sliceAt t (.slice (some ⟨mi.blk, mi.sh, none⟩) len cap) lo' hi' mx').run P w = .ok v' w) ∧ VR M (mkPre D b k l0 h0 (isZ D lo)) v' := by
      intro b len cap mi h0 l0 hpl hke hr hlen h64 hcap htot hmn hh hl
      obtain ⟨hn, ln, rfl, rfl, hll, hnl, hrun⟩ := own_cut (P := P) (base := some ⟨mi.blk, mi.sh, none⟩) (cap := cap) hd hk hmx (by simpa using hmn) hh hl hlo hhi (by omega)
      refine ⟨_, hrun, ?_⟩
      unfold mkPre
      cases hz : isZ D lo with
      | true =>
        have := isZ_zero (_lo' := lo') hz hl
        have hl0 : ln = 0 := by omega
        subst hl0
        have hadr : (if cap = 0 then some (⟨mi.blk, mi.sh, none⟩ : Addr) else (some (⟨mi.blk, mi.sh, none⟩ : Addr)).map (·.add (0 * k))) = some ⟨mi.blk, mi.sh, none⟩ := by
          split
          · rfl
          · rw [map_addA]; simp
        rw [hadr]
        exact .pre hpl hke hr rfl h64 (by omega) hcap htot
      | false =>
        show VR M (.part b k (ln : Int) ((hn : Int) - (ln : Int))) _
        have hsub : ((hn : Int) - (ln : Int)) = ((hn - ln : Nat) : Int) := by omega
        by_cases hcl : cap = ln
        · rw [if_pos hcl]
          have h1 : hn - ln = 0 := by omega
          rw [hsub, h1]
          exact .partZ hpl hke rfl (by omega)
        · rw [if_neg hcl, map_addA, hsub]
          have := VR.part (M := M) (b := b) (k := k) (l := hn - ln) (cap := cap - ln) (o := (ln : Int)) (n := ((hn - ln : Nat) : Int)) hpl hke hr rfl (by omega) (by rw [Int.toNat_natCast]; omega) h64 (by omega)
          rw [Int.toNat_natCast, hke] at this
          exact this
    have nilc : ∀ {b : Nat} {mi : MI} {h0 l0 : Int}, M.pl b = some mi → mi.esz = k → mi.real = false → mi.len = 0 → Option.isNone mx = true → (boundI D hi (0 : Int) (0 : Int)).H h0 → (boundI D lo zI h0).H l0 →
        ∃ v', (∀ w, (Instr.sliceAt t (.slice none 0 0) lo' hi' mx').run P w = .ok v' w) ∧ VR M (mkPre D b k l0 h0 (isZ D lo)) v' := by
      intro b mi h0 l0 hpl hke hr hlen hmn hh hl
      obtain ⟨hn, ln, rfl, rfl, hll, hnl, hrun⟩ := own_cut (P := P) (len := 0) (base := none) (cap := 0) hd hk hmx (by simpa using hmn) hh hl hlo hhi (Nat.le_refl _)
      refine ⟨_, hrun, ?_⟩
      obtain rfl : hn = 0 := by omega
      obtain rfl : ln = 0 := by omega
      unfold mkPre
      cases hz : isZ D lo with
      | true => exact .preV hpl hke hr rfl hlen
      | false => exact .partZ hpl hke (by simp) (by simp)
    cases x <;> simp only at h2 <;> (try exact h2.elim)
    case list c xs =>
      obtain ⟨hkc, h3⟩ := bB_H.1 h2
      obtain ⟨r, hr, h4⟩ := bnd_H.1 h3
      cases ret_H.1 h4
      cases hx with
      | list hs hm hc => exact lst (beq_nat.1 hkc) hr hs hm hc
      | listZ => exact emp hr
    case grow c xs b =>
      obtain ⟨hkc, h3⟩ := bB_H.1 h2
      obtain ⟨r, hr, h4⟩ := bnd_H.1 h3
      cases ret_H.1 h4
      cases hx with
      | grow hpl hr2 hl hz hs hm hc ht => exact lst (beq_nat.1 hkc) hr hs hm hc
      | growV hpl hr2 => exact emp hr
    case snil =>
      cases hx
      obtain ⟨m, hm, h3⟩ := bnd_H.1 h2
      obtain ⟨hn, hh, h4⟩ := bnd_H.1 h3
      obtain ⟨l, hl, h5⟩ := bnd_H.1 h4
      have hmh : Bool.and (Option.isSome mx) (Option.isNone hi) = false ∧ v = .snil := by
        rcases bE_H.1 h5 with ⟨_, h9⟩ | ⟨h8, h9⟩
        · exact h9.elim
        · exact ⟨h8, (ret_H.1 h9).symm⟩
      obtain ⟨hmh, rfl⟩ := hmh
      have rm := boundN_run hm hmx
      have rh := boundN_run hh hhi
      have rl := boundN_run hl hlo
      have m0 : m = 0 := by rcases rm with ⟨_, _, e⟩ | ⟨_, _, e, _⟩; exact e; exact Nat.le_zero.1 e
      have h0 : hn = 0 := by rcases rh with ⟨_, _, e⟩ | ⟨_, _, e, _⟩; exact e; exact Nat.le_zero.1 e
      have l0 : l = 0 := by rcases rl with ⟨_, _, e⟩ | ⟨_, _, e, _⟩; exact e; exact Nat.le_zero.1 e
      subst m0 h0 l0
      have hb : ∀ w, (Instr.sliceBounds true 0 0 lo' hi' mx').run P w = .ok (0, 0, 0) w := fun w => sliceBounds_run (by
          rcases rm with ⟨_, e2, _⟩ | ⟨q, e2, _, _⟩
          · exact .inl ⟨e2, rfl⟩
          · exact .inr ⟨q, e2, Nat.le_refl _⟩) (by
          rcases rh with ⟨e1, e2, _⟩ | ⟨q, e2, _, _⟩
          · refine .inl ⟨e2, ?_, rfl⟩
            rcases hmx with ⟨_, e⟩ | ⟨u, u', e, _⟩
            · exact e
            · rw [e, e1] at hmh; cases hmh
          · exact .inr ⟨q, e2, Nat.le_refl _⟩) (by
          rcases rl with ⟨_, e2, _⟩ | ⟨q, e2, _, _⟩
          · exact .inl ⟨e2, rfl⟩
          · exact .inr ⟨q, e2, Nat.le_refl _⟩) w
      refine ⟨_, fun w => run_slice_sl hd hk hb w, ?_⟩
      simp
      exact .snil
    case own b k' n =>
      obtain ⟨hq, h3⟩ := bB_H.1 h2
      rw [and_iff2, beq_nat] at hq
      obtain ⟨rfl, hmn⟩ := hq
      obtain ⟨h0, hh, h4⟩ := bnd_H.1 h3
      obtain ⟨l0, hl, h5⟩ := bnd_H.1 h4
      cases ret_H.1 h5
      cases hx with
      | own hpl hke hr hn hm hc ht => subst hn; exact ownc hpl hke hr (Nat.le_refl _) hm hc ht hmn hh hl
      | ownV hpl hke hr hn hlz => subst hn; exact nilc hpl hke hr hlz hmn hh hl
    case pre b k' n =>
      obtain ⟨hq, h3⟩ := bB_H.1 h2
      rw [and_iff2, beq_nat] at hq
      obtain ⟨rfl, hmn⟩ := hq
      obtain ⟨h0, hh, h4⟩ := bnd_H.1 h3
      obtain ⟨l0, hl, h5⟩ := bnd_H.1 h4
      cases ret_H.1 h5
      cases hx with
      | pre hpl hke hr hn hm hle hc ht => subst hn; exact ownc hpl hke hr hle hm hc ht hmn hh hl
      | preV hpl hke hr hn hlz => subst hn; exact nilc hpl hke hr hlz hmn hh hl
    case part b k' o n =>
      obtain ⟨hq, h3⟩ := bB_H.1 h2
      rw [and_iff2, beq_nat] at hq
      obtain ⟨rfl, hmn⟩ := hq
      obtain ⟨h0, hh, h4⟩ := bnd_H.1 h3
      obtain ⟨l0, hl, h5⟩ := bnd_H.1 h4
      cases ret_H.1 h5
      have key : ∀ {len cap : Nat} {base : Option Addr} {mi : MI}, n = (len : Int) → M.pl b = some mi → mi.esz = k' → 0 ≤ o → len ≤ cap → mi.len ≤ 9223372036854775807 ∨ len = 0 → (len ≠ 0 → mi.real = true ∧ o.toNat + len ≤ mi.len ∧ base = some ⟨mi.blk, mi.sh + o.toNat * mi.esz, none⟩) →
          ∃ v', (∀ w, (Instr.sliceAt t (.slice base len cap) lo' hi' mx').run P w = .ok v' w) ∧ VR M (mkPart D b k' o l0 h0 (isZ D lo)) v' := by
        intro len cap base mi hn hpl hke ho hcap h64 hne
        subst hn
        obtain ⟨hn, ln, rfl, rfl, hll, hnl, hrun⟩ := own_cut (P := P) (base := base) (cap := cap) hd hk hmx (by simpa using hmn) hh hl hlo hhi hcap
        refine ⟨_, hrun, ?_⟩
        unfold mkPart
        have hsub : ((hn : Int) - (ln : Int)) = ((hn - ln : Nat) : Int) := by omega
        cases hz : isZ D lo with
        | true =>
          have := isZ_zero (_lo' := lo') hz hl
          have hl0 : ln = 0 := by omega
          subst hl0
          show VR M (.part b k' o (hn : Int)) _
          by_cases hz0 : hn = 0
          · subst hz0; exact .partZ hpl hke rfl ho
          · obtain ⟨hr, hle, rfl⟩ := hne (by omega)
            rw [if_neg (by omega), map_addA, Nat.zero_mul, Nat.add_zero]
            exact .part hpl hke hr rfl ho (by omega) (by omega) (by omega)
        | false =>
          show VR M (.part b k' (o + (ln : Int)) ((hn : Int) - (ln : Int))) _
          rw [hsub]
          by_cases hz0 : hn - ln = 0
          · rw [hz0]; exact .partZ hpl hke rfl (by omega)
          · obtain ⟨hr, hle, rfl⟩ := hne (by omega)
            rw [if_neg (by omega), map_addA]
            have ht : (o + (ln : Int)).toNat = o.toNat + ln := by omega
            have := VR.part (M := M) (b := b) (k := k') (l := hn - ln) (cap := cap - ln) (o := o + (ln : Int)) (n := ((hn - ln : Nat) : Int)) hpl hke hr rfl (by omega) (by rw [ht]; omega) (by omega) (by omega)
            rw [ht, Nat.add_mul, ← Nat.add_assoc, hke] at this
            rw [hke]
            exact this
      cases hx with
      | part hpl hke hr hn ho hle hm hc => exact key hn hpl hke ho hc (.inl hm) fun _ => ⟨hr, hle, rfl⟩
      | partZ hpl hke hn ho => exact key (len := 0) hn hpl hke ho (Nat.zero_le _) (.inr rfl) fun h => absurd rfl h
    case sub b o n =>
      obtain ⟨hn, hh, h3⟩ := bnd_H.1 h2
      obtain ⟨l, hl, h4⟩ := bnd_H.1 h3
      obtain ⟨hmn0, h5⟩ := bB_H.1 h4
      rw [and_iff2, beq_nat] at hmn0
      obtain ⟨rfl, hmn⟩ := hmn0
      cases ret_H.1 h5
      have hmx0 : mx' = none := by
        rcases hmx with ⟨_, e⟩ | ⟨u, u', e, _⟩
        · exact e
        · rw [e] at hmn; cases hmn
      subst hmx0
      have rh := boundN_run hh hhi
      have rl := boundN_run hl hlo
      have hnl : hn ≤ n := by rcases rh with ⟨_, _, e⟩ | ⟨_, _, e, _⟩ <;> omega
      have hll : l ≤ hn := by rcases rl with ⟨_, _, e⟩ | ⟨_, _, e, _⟩ <;> omega
      have hb : ∀ cap, n ≤ cap → ∀ w, (Instr.sliceBounds true n cap lo' hi' none).run P w = .ok (l, hn, cap) w := fun cap hc w => sliceBounds_run (.inl ⟨rfl, rfl⟩) (by
          rcases rh with ⟨e1, e2, e3⟩ | ⟨q, e2, _, _⟩
          · exact .inl ⟨e2, rfl, e3⟩
          · exact .inr ⟨q, e2, by omega⟩) (by
          rcases rl with ⟨_, e2, e3⟩ | ⟨q, e2, _, _⟩
          · exact .inl ⟨e2, e3⟩
          · exact .inr ⟨q, e2, by omega⟩) w
      cases hx with
      | @sub _ _ _ cap mi hpl hr hc hm =>
        refine ⟨_, fun w => run_slice_sl hd hk (hb cap hc) w, ?_⟩
        by_cases hcl : cap = l
        · have h1 : hn - l = 0 := by omega
          rw [if_pos hcl, show Nat.sub hn l = hn - l from rfl, h1]
          exact .subZ
        · rw [if_neg hcl, map_addA]
          have := VR.sub (M := M) (b := b) (o := o + l) (n := hn - l) (cap := cap - l) hpl hr (by omega) (by omega)
          rw [← Nat.add_assoc] at this
          rw [Nat.mul_one]
          exact this
      | @subZ _ _ cap ad =>
        refine ⟨_, fun w => run_slice_sl hd hk (hb cap (Nat.zero_le _)) w, ?_⟩
        have h1 : hn - l = 0 := by omega
        rw [show Nat.sub hn l = hn - l from rfl, h1]
        split
        · exact .subZ
        · rw [Option.map_some]; exact .subZ
  case array n e =>
    cases x <;> simp only at h1 <;> (try exact h1.elim)
    case ptr b o =>
      obtain ⟨k, hk, h2⟩ := bnd_H.1 h1
      rw [sz_H] at hk
      obtain ⟨hk1, h3⟩ := bB_H.1 h2
      rw [beq_nat] at hk1
      subst hk1
      obtain ⟨hq, h4⟩ := bB_H.1 h3
      rw [and_iff2, ble_nat] at hq
      obtain ⟨hn40, hmn⟩ := hq
      obtain ⟨hn, hh, h5⟩ := bnd_H.1 h4
      obtain ⟨l, hl, h6⟩ := bnd_H.1 h5
      cases ret_H.1 h6
      have hn40' : n ≤ 1099511627776 := hn40
      have hmx0 : mx' = none := by
        rcases hmx with ⟨_, e⟩ | ⟨u, u', e, _⟩
        · exact e
        · rw [e] at hmn; cases hmn
      subst hmx0
      have rh := boundN_run hh hhi
      have rl := boundN_run hl hlo
      have hnl : hn ≤ n := by rcases rh with ⟨_, _, e⟩ | ⟨_, _, e, _⟩ <;> omega
      have hll : l ≤ hn := by rcases rl with ⟨_, _, e⟩ | ⟨_, _, e, _⟩ <;> omega
      have hb : ∀ w, (Instr.sliceBounds false n n lo' hi' none).run P w = .ok (l, hn, n) w := fun w => sliceBounds_run (.inl ⟨rfl, rfl⟩) (by
          rcases rh with ⟨e1, e2, e3⟩ | ⟨q, e2, _, _⟩
          · exact .inl ⟨e2, rfl, e3⟩
          · exact .inr ⟨q, e2, by omega⟩) (by
          rcases rl with ⟨_, e2, e3⟩ | ⟨q, e2, _, _⟩
          · exact .inl ⟨e2, e3⟩
          · exact .inr ⟨q, e2, by omega⟩) w
      cases hx with
      | @ptr _ _ mi hpl hr =>
        refine ⟨.slice (some (if n = l then ⟨mi.blk, mi.sh + o, none⟩ else ⟨mi.blk, mi.sh + o + l * 1, none⟩)) (hn - l) (n - l), fun w => ?_, ?_⟩
        · simp only [Instr.sliceAt, Sem.run_bind, run_underlying hd, Result.andThen_ok, Instr.sureAddr, Sem.run_pure, hb, run_size hk, addA]
        · by_cases hcl : n = l
          · have h1 : hn - l = 0 := by omega
            rw [if_pos hcl, show Nat.sub hn l = hn - l from rfl, h1]
            exact .subZ
          · rw [if_neg hcl]
            have := VR.sub (M := M) (b := b) (o := o + l) (n := hn - l) (cap := n - l) hpl hr (by omega) (by omega)
            rw [← Nat.add_assoc] at this
            rw [Nat.mul_one]
            exact this
theorem opFieldAddr_run {t : TypeId} {x v : AV D.E} {x' : Value} {f : Nat} (h : (opFieldAddr P D t x f).H v) (hx : VR M x x') : ∃ v', (∀ w, (Instr.fieldAt t x' f).run P w = .ok v' w) ∧ VR M v v' := by
  obtain ⟨d, hd, h1⟩ := bnd_H.1 h
  obtain ⟨fs, hfs, h2⟩ := bnd_H.1 h1
  obtain ⟨fd, hfd, h3⟩ := bnd_H.1 h2
  obtain ⟨k, hk, h4⟩ := bnd_H.1 h3
  obtain ⟨hk1, h5⟩ := bB_H.1 h4
  rw [und_H] at hd
  rw [sz_H] at hk
  rw [ofO_H] at hfd
  have hk0 : ¬ k = 0 := by have h9 : 1 ≤ k := ble_nat.1 hk1; omega
  cases d <;> first | exact hfs.elim | skip
  rename_i fs'
  cases ret_H.1 hfs
  rw [lGet_eq, Array.getElem?_toList] at hfd
  have run : ∀ (b o : Nat) (w : World), (Instr.fieldAt t (.pointer (some ⟨b, o, none⟩)) f).run P w = .ok (.pointer (some ⟨b, o + fd.offset, none⟩)) w := fun b o w => by
    simp only [Instr.fieldAt, Sem.run_bind, run_underlying hd, Result.andThen_ok, hfd, Instr.sureAddr, Sem.run_pure, fieldPlace, run_size hk, if_neg hk0, addA]
  cases x <;> simp only at h5 <;> (try exact h5.elim)
  case ptr b o =>
    cases ret_H.1 h5
    cases hx with
    | ptr hpl hr => exact ⟨_, run _ _, by rw [Nat.add_assoc]; exact .ptr hpl hr⟩
  case glob g o =>
    cases ret_H.1 h5
    cases hx with
    | glob => exact ⟨_, run _ _, .glob _ _⟩
  case pix b k2 i j =>
    cases ret_H.1 h5
    cases hx with
    | pix hpl hr hke hi => exact ⟨_, run _ _, by rw [Nat.add_assoc]; exact .pix hpl hr hke hi⟩
  case pel c y j =>
    cases ret_H.1 h5
    cases hx with
    | pel hs => exact ⟨_, run _ _, by rw [Nat.add_assoc]; exact .pel hs⟩
theorem opField_run {t : TypeId} {x v : AV D.E} {x' : Value} {f : Nat} (h : (opField P D t x f).H v) (hx : VR M x x') : ∃ v', (∀ w, (Instr.field t x' f).run P w = .ok v' w) ∧ VR M v v' := by
  obtain ⟨d, hd, h1⟩ := bnd_H.1 h
  obtain ⟨fs, hfs, h2⟩ := bnd_H.1 h1
  obtain ⟨cs, hc, h3⟩ := bnd_H.1 h2
  obtain ⟨fd, hfd, h4⟩ := bnd_H.1 h3
  rw [und_H] at hd
  rw [ofO_H] at hfd
  obtain ⟨c', rfl, hl⟩ := asAgg_VR hc hx
  cases d <;> first | exact hfs.elim | skip
  cases ret_H.1 hfs
  rw [lGet_eq, Array.getElem?_toList] at hfd
  obtain ⟨v', hr, hv⟩ := partC_run h4 hl
  exact ⟨v', fun w => by simp only [Instr.field, Sem.run_bind, run_underlying hd, Result.andThen_ok, hfd, Go.asAgg, Sem.run_pure, hr], hv⟩
theorem opIdxAddr_run {t : TypeId} {x i v : AV D.E} {x' i' : Value} (h : (opIdxAddr P D t x i).H v) (hx : VR M x x') (hi : VR M i i') : ∃ v', (∀ w, (Instr.indexAt t x' i').run P w = .ok v' w) ∧ VR M v v' := by
  obtain ⟨d, hd, h1⟩ := bnd_H.1 h
  rw [und_H] at hd
  cases d <;> simp only at h1 <;> (try exact h1.elim)
  case slice e =>
    obtain ⟨k, hk, h2⟩ := bnd_H.1 h1
    obtain ⟨ki, n, hn, h3⟩ := bnd2_H.1 h2
    rw [sz_H] at hk
    obtain ⟨rfl, _⟩ := asI_VR hn hi
    have run : ∀ (b o len cap q : Nat) (w : World), n = (q : Int) → q < len → (Instr.indexAt t (.slice (some ⟨b, o, none⟩) len cap) (.int ki n)).run P w = .ok (.pointer (some ⟨b, o + q * k, none⟩)) w := fun b o len cap q w hq hlt => by
      subst hq
      have hcond : 0 ≤ (q : Int) ∧ (q : Int) < (len : Int) := ⟨by omega, by omega⟩
      simp only [Instr.indexAt, asIntOf, Sem.run_bind, Sem.run_pure, run_underlying hd, Result.andThen_ok, if_pos hcond, run_size hk, addA, Int.toNat_natCast]
    -- of a list that is only read
    have lst : ∀ {c b o cap : Nat} {xs : List (D.E c)}, k = D.size c → ile zI n = true → ilt n (llen xs) = true → Sealed M b o c xs → ∃ v', (∀ w, (Instr.indexAt t (.slice (some ⟨b, o, none⟩) xs.length cap) (.int ki n)).run P w = .ok v' w) ∧ VR M (.pel c (gt (D.dfl c) xs n.toNat) 0) v' := by
      intro c b o cap xs hkc h5 h6 hs
      have h5' : 0 ≤ n := of_decide_eq_true h5
      have h6' : n < (xs.length : Int) := of_decide_eq_true h6
      obtain ⟨q, rfl⟩ : ∃ q : Nat, n = q := ⟨n.toNat, by omega⟩
      have hq : q < xs.length := by omega
      refine ⟨_, fun w => run b o xs.length cap q w rfl hq, ?_⟩
      rw [Int.toNat_natCast, gt_get hq, hkc]
      have := VR.pel (M := M) (j := 0) (x := xs[q]) (b := b) (o := o + q * D.size c) (fun j u e => hs q hq j u e)
      rw [Nat.add_zero] at this
      exact this
    have ownp : ∀ {b q : Nat} {mi : MI} {len cap o : Nat}, M.pl b = some mi → mi.real = true → mi.esz = k → n = (q : Int) → q < len → o + len ≤ mi.len → ∃ v', (∀ w, (Instr.indexAt t (.slice (some ⟨mi.blk, mi.sh + o * mi.esz, none⟩) len cap) (.int ki n)).run P w = .ok v' w) ∧ VR M (.pix b k (o + q) 0) v' := by
      intro b q mi len cap o hpl hr hke hq hlt hle
      refine ⟨_, fun w => run _ _ _ _ q w hq hlt, ?_⟩
      have := VR.pix (M := M) (b := b) (k := k) (i := o + q) (j := 0) hpl hr hke (by omega)
      rw [Nat.add_zero, Nat.add_mul, ← Nat.add_assoc] at this
      rw [hke]
      exact this
    cases x <;> simp only at h3 <;> (try exact h3.elim)
    case list c xs =>
      obtain ⟨hkc, h4⟩ := bB_H.1 h3
      obtain ⟨h5, h6⟩ := ask_H.1 h4
      obtain ⟨h7, h8⟩ := ask_H.1 h6
      cases ret_H.1 h8
      cases hx with
      | list hs hm hc => exact lst (beq_nat.1 hkc) h5 h7 hs
      | listZ => exfalso; have h5' : 0 ≤ n := of_decide_eq_true h5; have h7' : n < 0 := of_decide_eq_true h7; omega
    case grow c xs b =>
      obtain ⟨hkc, h4⟩ := bB_H.1 h3
      obtain ⟨h5, h6⟩ := ask_H.1 h4
      obtain ⟨h7, h8⟩ := ask_H.1 h6
      cases ret_H.1 h8
      cases hx with
      | grow hpl hr hl hz hs hm hc ht => exact lst (beq_nat.1 hkc) h5 h7 hs
      | growV => exfalso; have h5' : 0 ≤ n := of_decide_eq_true h5; have h7' : n < 0 := of_decide_eq_true h7; omega
    case own b k' m =>
      obtain ⟨hkc, h4⟩ := bB_H.1 h3
      obtain ⟨h5, h6⟩ := ask_H.1 h4
      obtain ⟨h7, h8⟩ := ask_H.1 h6
      cases ret_H.1 h8
      rw [beq_nat] at hkc
      subst hkc
      have h5' : 0 ≤ n := of_decide_eq_true h5
      have h7' : n < m := of_decide_eq_true h7
      obtain ⟨q, rfl⟩ : ∃ q : Nat, n = q := ⟨n.toNat, by omega⟩
      cases hx with
      | @own _ _ cap _ mi hpl hke hr hn hm hc ht =>
        obtain ⟨v', k1, k2⟩ := ownp (q := q) (o := 0) (len := mi.len) (cap := cap) hpl hr hke rfl (by omega) (by omega)
        rw [Nat.zero_mul, Nat.add_zero] at k1
        rw [Nat.zero_add] at k2
        exact ⟨v', k1, by rw [Int.toNat_natCast]; exact k2⟩
      | ownV hpl hke hr hn hlz => exfalso; omega
    case pre b k' m =>
      obtain ⟨hkc, h4⟩ := bB_H.1 h3
      obtain ⟨h5, h6⟩ := ask_H.1 h4
      obtain ⟨h7, h8⟩ := ask_H.1 h6
      cases ret_H.1 h8
      rw [beq_nat] at hkc
      subst hkc
      have h5' : 0 ≤ n := of_decide_eq_true h5
      have h7' : n < m := of_decide_eq_true h7
      obtain ⟨q, rfl⟩ : ∃ q : Nat, n = q := ⟨n.toNat, by omega⟩
      cases hx with
      | @pre _ _ l cap _ mi hpl hke hr hn hm hle hc ht =>
        obtain ⟨v', k1, k2⟩ := ownp (q := q) (o := 0) (len := l) (cap := cap) hpl hr hke rfl (by omega) (by omega)
        rw [Nat.zero_mul, Nat.add_zero] at k1
        rw [Nat.zero_add] at k2
        exact ⟨v', k1, by rw [Int.toNat_natCast]; exact k2⟩
      | preV hpl hke hr hn hlz => exfalso; omega
    case part b k' o m =>
      obtain ⟨hkc, h4⟩ := bB_H.1 h3
      obtain ⟨h5, h6⟩ := ask_H.1 h4
      obtain ⟨h7, h8⟩ := ask_H.1 h6
      cases ret_H.1 h8
      rw [beq_nat] at hkc
      subst hkc
      have h5' : 0 ≤ n := of_decide_eq_true h5
      have h7' : n < m := of_decide_eq_true h7
      obtain ⟨q, rfl⟩ : ∃ q : Nat, n = q := ⟨n.toNat, by omega⟩
      cases hx with
      | @part _ _ l cap _ _ mi hpl hke hr hn ho hle hm hc =>
        obtain ⟨v', k1, k2⟩ := ownp (q := q) (o := o.toNat) (len := l) (cap := cap) hpl hr hke rfl (by omega) hle
        exact ⟨v', k1, by rw [show (o + (q : Int)).toNat = o.toNat + q by omega]; exact k2⟩
      | partZ hpl hke hn ho => exfalso; omega
  case array len e =>
    obtain ⟨k, hk, h2⟩ := bnd_H.1 h1
    obtain ⟨hk1, h3⟩ := bB_H.1 h2
    obtain ⟨n, hn, h4⟩ := bnd_H.1 h3
    obtain ⟨hlt, h5⟩ := bB_H.1 h4
    rw [sz_H] at hk
    have hlt' : n < len := ble_nat.1 hlt
    obtain ⟨ki, rfl⟩ := asN_VR hn hi
    have run : ∀ (b o : Nat) (w : World), (Instr.indexAt t (.pointer (some ⟨b, o, none⟩)) (.int ki (n : Int))).run P w = .ok (.pointer (some ⟨b, o + n * k, none⟩)) w := fun b o w => by
      have hcond : 0 ≤ (n : Int) ∧ (n : Int) < (len : Int) := ⟨by omega, by omega⟩
      simp only [Instr.indexAt, asIntOf, Sem.run_bind, Sem.run_pure, run_underlying hd, Result.andThen_ok, Instr.sureAddr, if_pos hcond, run_size hk, addA, Int.toNat_natCast]
    cases x <;> simp only at h5 <;> (try exact h5.elim)
    case ptr b o =>
      cases ret_H.1 h5
      cases hx with
      | ptr hpl hr => exact ⟨_, run _ _, by rw [Nat.add_assoc]; exact .ptr hpl hr⟩
    case pix b k2 i j =>
      cases ret_H.1 h5
      cases hx with
      | pix hpl hr hke hi => exact ⟨_, run _ _, by rw [Nat.add_assoc]; exact .pix hpl hr hke hi⟩
    case pel c y j =>
      cases ret_H.1 h5
      cases hx with
      | pel hs => exact ⟨_, run _ _, by rw [Nat.add_assoc]; exact .pel hs⟩
theorem opIndex_run {t : TypeId} {x i v : AV D.E} {x' i' : Value} (h : (opIndex P D t x i).H v) (hx : VR M x x') (hi : VR M i i') : ∃ v', (∀ w, (Instr.index t x' i').run P w = .ok v' w) ∧ VR M v v' := by
  obtain ⟨d, hd, h1⟩ := bnd_H.1 h
  rw [und_H] at hd
  cases d <;> simp only at h1 <;> (try exact h1.elim)
  case string =>
    obtain ⟨ki, n, hn, h2⟩ := bnd2_H.1 h1
    obtain ⟨l, hl, h3⟩ := bnd_H.1 h2
    obtain ⟨h4, h5⟩ := ask_H.1 h3
    obtain ⟨h6, h7⟩ := ask_H.1 h5
    cases ret_H.1 h7
    obtain ⟨rfl, _⟩ := asI_VR hn hi
    obtain ⟨rfl, _⟩ := asStr_VR hl hx
    have h4' : 0 ≤ n := of_decide_eq_true h4
    have h6' : n < (l.length : Int) := of_decide_eq_true h6
    obtain ⟨q, rfl⟩ : ∃ q : Nat, n = q := ⟨n.toNat, by omega⟩
    have hq : q < l.length := by omega
    have hb : (⟨⟨l⟩⟩ : ByteArray)[q]? = some l[q] := by
      rw [getElem?_pos (⟨⟨l⟩⟩ : ByteArray) q hq]
      rfl
    refine ⟨.int .u8 (l[q].toNat : Int), fun w => by simp [Instr.index, asIntOf, run_underlying hd, hb], ?_⟩
    have e : sat l (q : Int) = (l[q].toNat : Int) := by
      simp only [sat, Int.toNat_natCast]
      rw [List.getD_eq_getElem?_getD, List.getElem?_eq_getElem hq]
      rfl
    rw [e]
    exact .int (byte_inR _)
  case array len e =>
    obtain ⟨k, hk, h2⟩ := bnd_H.1 h1
    obtain ⟨n, hn, h3⟩ := bnd_H.1 h2
    obtain ⟨cs, hc, h4⟩ := bnd_H.1 h3
    obtain ⟨hlt, h5⟩ := bB_H.1 h4
    rw [sz_H] at hk
    obtain ⟨ki, rfl⟩ := asN_VR hn hi
    obtain ⟨c', rfl, hl⟩ := asAgg_VR hc hx
    have hlt' : n < len := ble_nat.1 hlt
    obtain ⟨v', hr, hv⟩ := partC_run h5 hl
    have hcond : 0 ≤ (n : Int) ∧ (n : Int) < (len : Int) := ⟨by omega, by omega⟩
    refine ⟨v', fun w => ?_, hv⟩
    simp only [Instr.index, asIntOf, Sem.run_bind, Sem.run_pure, run_underlying hd, Result.andThen_ok, if_pos hcond, run_size hk, Int.toNat_natCast]
    exact hr w
theorem opExtract_run {x v : AV D.E} {x' : Value} {i : Nat} (h : (opExtract D x i).H v) (hx : VR M x x') : ∃ v', (∀ w, (Instr.extract x' i).run P w = .ok v' w) ∧ VR M v v' := by
  obtain ⟨l, hl, h1⟩ := bnd_H.1 h
  obtain ⟨c', rfl, hlr⟩ := asTup_VR hl hx
  rw [ofO_H, lGet_eq] at h1
  obtain ⟨v', hv, hr⟩ := hlr.get h1
  rw [Array.getElem?_toList] at hv
  exact ⟨v', fun w => by simp [Instr.extract, hv], hr⟩
end
end Go.Proofs.YtjdehneddakpnaaGreatDoor.sx
namespace Go.Proofs.YtjdehneddakpnaaGreatDoor.sx
open Go Go.RowKit
section
variable {P : Program} {D : Data} {cd : TypeId → Option Nat} {M M' : Pm D} {φ : T (AV D.E)} {a : Act} {N : Nat} {w w' : World} {H : Hp D} {s s' : St D.E}
def nilV (v : Value) : Option Bool := match v with
  | .pointer a => some a.isNone
  | .map a => some a.isNone
  | .slice a _ _ => some a.isNone
  | .nilIface => some true
  | .iface _ _ => some false
  | .nilFunc => some true
  | .func _ _ _ => some false
  | _ => none
def formV (v : Value) : Nat := match v with
  | .pointer _ => 1 | .slice _ _ _ => 2 | .map _ => 3 | .nilFunc => 4 | .func _ _ _ => 4 | .nilIface => 5 | .iface _ _ => 5
  | _ => 0
theorem nilish_VR {v : AV D.E} {v' : Value} {b : Bool} (h : (nilish D v).H b) (hv : VR M v v') : nilV v' = some b ∧ formV v' = formOf D v := by
  cases hv <;> simp only [nilish] at h <;> first | (exact h.elim) | (cases ret_H.1 h; exact ⟨rfl, rfl⟩)
theorem form1 {v : Value} (h : formV v = 1) : ∃ a, v = .pointer a := by cases v <;> first | exact ⟨_, rfl⟩ | cases h
theorem form2 {v : Value} (h : formV v = 2) : ∃ a l c, v = .slice a l c := by cases v <;> first | exact ⟨_, _, _, rfl⟩ | cases h
theorem form3 {v : Value} (h : formV v = 3) : ∃ a, v = .map a := by cases v <;> first | exact ⟨_, rfl⟩ | cases h
theorem form4 {v : Value} (h : formV v = 4) : v = .nilFunc ∨ ∃ f a b, v = .func f a b := by cases v <;> first | exact .inl rfl | exact .inr ⟨_, _, _, rfl⟩ | cases h
theorem form5 {v : Value} (h : formV v = 5) : v = .nilIface ∨ ∃ t u, v = .iface t u := by cases v <;> first | exact .inl rfl | exact .inr ⟨_, _, rfl⟩ | cases h
theorem form6 {v : Value} : formV v ≠ 6 := by cases v <;> simp [formV]
theorem eqNil_run {t : TypeId} {d : TypeDesc} {x y : AV D.E} {x' y' : Value} {r c : Bool} (h : (eqNil D d x y).H (r, c)) (hd : P.underlying t = some d) (hx : VR M x x') (hy : VR M y y') (n : Nat) (w : World) : (Op.equalIn (n + 1) t x' y').run P w = .ok r w := by
  obtain ⟨f1, h1⟩ := bB_H.1 h
  obtain ⟨f2, h2⟩ := bB_H.1 h1
  obtain ⟨b1, e1, h3⟩ := bnd_H.1 h2
  obtain ⟨b2, e2, h4⟩ := bnd_H.1 h3
  obtain ⟨g1, k1⟩ := nilish_VR e1 hx
  obtain ⟨g2, k2⟩ := nilish_VR e2 hy
  rw [beq_nat, ← k1] at f1
  rw [beq_nat, ← k2] at f2
  have h5 : r = (b1 && b2) ∧ (b1 || b2) = true := by
    rcases bE_H.1 h4 with ⟨h6, h7⟩ | ⟨_, h7⟩
    · cases ret_H.1 h7; exact ⟨rfl, h6⟩
    · exact h7.elim
  obtain ⟨rfl, hor⟩ := h5
  clear h h1 h2 h3 h4 e1 e2 k1 k2 hx hy
  cases d with
  | pointer e =>
    obtain ⟨a1, rfl⟩ := form1 f1
    obtain ⟨a2, rfl⟩ := form1 f2
    cases a1 <;> cases a2 <;> cases g1 <;> cases g2 <;> first | (cases hor; done) | simp [Op.equalIn, run_underlying hd]
  | slice e =>
    obtain ⟨a1, l1, c1, rfl⟩ := form2 f1
    obtain ⟨a2, l2, c2, rfl⟩ := form2 f2
    cases a1 <;> cases a2 <;> cases g1 <;> cases g2 <;> first | (cases hor; done) | simp [Op.equalIn, run_underlying hd]
  | map k e =>
    obtain ⟨a1, rfl⟩ := form3 f1
    obtain ⟨a2, rfl⟩ := form3 f2
    cases a1 <;> cases a2 <;> cases g1 <;> cases g2 <;> first | (cases hor; done) | simp [Op.equalIn, run_underlying hd]
  | func ps rs vr =>
    rcases form4 f1 with rfl | ⟨_, _, _, rfl⟩ <;> rcases form4 f2 with rfl | ⟨_, _, _, rfl⟩ <;> cases g1 <;> cases g2 <;> first | (cases hor; done) | simp [Op.equalIn, run_underlying hd]
  | interface ms =>
    rcases form5 f1 with rfl | ⟨_, _, rfl⟩ <;> rcases form5 f2 with rfl | ⟨_, _, rfl⟩ <;> cases g1 <;> cases g2 <;> first | (cases hor; done) | simp [Op.equalIn, run_underlying hd]
  | _ => exact absurd f1 form6
theorem eqInt_run {x y : AV D.E} {x' y' : Value} {r c : Bool} (h : (eqInt D x y).H (r, c)) (hx : VR M x x') (hy : VR M y y') : ∃ k a b, x' = .int k a ∧ y' = .int k b ∧ r = decide (a = b) := by
  cases x <;> simp only [eqInt] at h <;> (try exact h.elim)
  case int k a =>
    obtain ⟨k', b, h1, h2⟩ := bnd2_H.1 h
    obtain ⟨h3, h4⟩ := bB_H.1 h2
    obtain rfl := kEq_iff.1 h3
    cases ret_H.1 h4
    cases hx
    obtain ⟨rfl, _⟩ := asI_VR h1 hy
    exact ⟨_, _, _, rfl, rfl, rfl⟩
  case num k a =>
    cases hx
    cases y <;> simp only at h <;> (try exact h.elim)
    case int k' b =>
      obtain ⟨h3, h4⟩ := bB_H.1 h
      obtain rfl := kEq_iff.1 h3
      cases ret_H.1 h4
      cases hy
      exact ⟨_, _, _, rfl, rfl, rfl⟩
    case num k' b =>
      obtain ⟨h3, h4⟩ := bB_H.1 h
      obtain rfl := kEq_iff.1 h3
      cases ret_H.1 h4
      cases hy
      refine ⟨_, _, _, rfl, rfl, ?_⟩
      rw [iEq_eq]
      rfl
theorem eqBase_run {t : TypeId} {d : TypeDesc} {x y : AV D.E} {x' y' : Value} {r c : Bool} (h : (eqBase D d x y).H (r, c)) (hd : P.underlying t = some d) (hx : VR M x x') (hy : VR M y y') (n : Nat) (w : World) : (Op.equalIn (n + 1) t x' y').run P w = .ok r w := by
  cases d with
  | bool =>
    obtain ⟨a, p, ha, h1⟩ := bnd2_H.1 (show (bnd2 (asT x) fun a p => bnd2 (asT y) fun b q => .ret (beq2 a b, Bool.and p q)).H (r, c) from h)
    obtain ⟨b, q, hb, h2⟩ := bnd2_H.1 h1
    have h2 := ret_H.1 h2
    simp only [Prod.mk.injEq] at h2
    obtain ⟨rfl, _⟩ := h2
    obtain rfl := asT_VR ha hx
    obtain rfl := asT_VR hb hy
    cases a <;> cases b <;> simp [Op.equalIn, run_underlying hd, beq2]
  | int k0 =>
    obtain ⟨k, a, b, rfl, rfl, rfl⟩ := eqInt_run (show (eqInt D x y).H (r, c) from h) hx hy
    simp only [Op.equalIn, run_underlying hd, Sem.run_bind, Result.andThen_ok]
    simp
    try rfl
  | string =>
    obtain ⟨a, ha, h1⟩ := bnd_H.1 (show (bnd (asStr x) fun a => bnd (asStr y) fun b => .ret (seq a b, false)).H (r, c) from h)
    obtain ⟨b, hb, h2⟩ := bnd_H.1 h1
    have h2 := ret_H.1 h2
    simp only [Prod.mk.injEq] at h2
    obtain ⟨rfl, _⟩ := h2
    obtain ⟨rfl, _⟩ := asStr_VR ha hx
    obtain ⟨rfl, _⟩ := asStr_VR hb hy
    rw [run_equalIn_string w n t _ _ hd, ByteArray.toList_eq, ByteArray.toList_eq]
    congr 1
    simp only [seq]
    rw [Bool.eq_iff_iff]
    simp
  | _ => exact eqNil_run h hd hx hy n w
theorem both2_fst (a b : Bool × Bool) : (both2 a b).1 = (a.1 && b.1) := by
  obtain ⟨x, p⟩ := a
  obtain ⟨y, q⟩ := b
  cases x <;> cases p <;> cases y <;> cases q <;> rfl
/-- the loop over fields -/
theorem eqFields_run {ih : TypeId → AV D.E → AV D.E → C (Bool × Bool)} {n : Nat} {xs ys : List (AV D.E)} {X Y : Array Value} (hX : LR M xs X.toList) (hY : LR M ys Y.toList)
    (hih : ∀ (t : TypeId) (x y : AV D.E) (x' y' : Value) (r : Bool × Bool), (ih t x y).H r → VR M x x' → VR M y y' → ∀ w, (Op.equalIn n t x' y').run P w = .ok r.1 w) : ∀ {fs : List Field} {r : Bool × Bool}, (eqFields P D ih xs ys fs).H r → ∀ w,
    (forIn fs ((none, ()) : Option Bool × Unit) fun f __s => (if f.name ≠ "_" then do
        let __do_lift ← part f.type X f.offset
        let __do_lift_1 ← part f.type Y f.offset
        let __do_lift ← Op.equalIn n f.type __do_lift __do_lift_1
        if (!__do_lift) = true then Pure.pure (ForInStep.done (some false, ())) else Pure.pure (ForInStep.yield (none, ()))
      else Pure.pure (ForInStep.yield (none, ())) : Sem (ForInStep (Option Bool × Unit)))).run P w = .ok (if r.1 then (none, ()) else (some false, ())) w
  | [], r, h, w => by cases ret_H.1 (show (C.ret (true, true)).H r from h); simp
  | f :: fs, r, h, w => by
    obtain ⟨hn, h1⟩ : decide (f.name = "_") = false ∧ (bnd (partC P D f.type xs f.offset) fun x => bnd (partC P D f.type ys f.offset) fun y => bnd (ih f.type x y) fun r => bnd (eqFields P D ih xs ys fs) fun r' => .ret (both2 r r')).H r := by
      rcases bE_H.1 (show (bE (decide (f.name = "_")) .fail _).H r from h) with ⟨_, h9⟩ | ⟨h8, h9⟩
      · exact h9.elim
      · exact ⟨h8, h9⟩
    have hn' : f.name ≠ "_" := by simpa using hn
    obtain ⟨x, hx, h2⟩ := bnd_H.1 h1
    obtain ⟨y, hy, h3⟩ := bnd_H.1 h2
    obtain ⟨q, hq, h4⟩ := bnd_H.1 h3
    obtain ⟨q2, hq2, h5⟩ := bnd_H.1 h4
    cases ret_H.1 h5
    obtain ⟨x', rx, vx⟩ := partC_run hx hX
    obtain ⟨y', ry, vy⟩ := partC_run hy hY
    have he := hih _ _ _ _ _ _ hq vx vy w
    have ihf := eqFields_run hX hY hih hq2 w
    rw [List.forIn_cons, both2_fst]
    cases hq1 : q.1 with
    | true =>
      rw [hq1] at he
      simp only [if_pos hn', Sem.run_bind, rx, ry, he, Result.andThen_ok, Bool.not_true, Bool.false_eq_true, if_false, Sem.run_pure, Bool.true_and]
      exact ihf
    | false =>
      rw [hq1] at he
      simp only [if_pos hn', Sem.run_bind, rx, ry, he, Result.andThen_ok, Bool.not_false, if_true, Sem.run_pure, Bool.false_eq_true, if_false, Bool.false_and]
theorem eqElems_run {ih : TypeId → AV D.E → AV D.E → C (Bool × Bool)} {n k : Nat} {e : TypeId} {xs ys : List (AV D.E)} {X Y : Array Value} (hX : LR M xs X.toList) (hY : LR M ys Y.toList)
    (hih : ∀ (t : TypeId) (x y : AV D.E) (x' y' : Value) (r : Bool × Bool), (ih t x y).H r → VR M x x' → VR M y y' → ∀ w, (Op.equalIn n t x' y').run P w = .ok r.1 w) : ∀ {m i : Nat} {r : Bool × Bool}, (eqElems P D ih e k xs ys m i).H r → ∀ w,
    (forIn (List.range' i m) ((none, ()) : Option Bool × Unit) fun i __s => (do
        let __do_lift ← part e X (i * k)
        let __do_lift_1 ← part e Y (i * k)
        let __do_lift ← Op.equalIn n e __do_lift __do_lift_1
        if (!__do_lift) = true then Pure.pure (ForInStep.done (some false, ())) else Pure.pure (ForInStep.yield (none, ())) : Sem (ForInStep (Option Bool × Unit)))).run P w = .ok (if r.1 then (none, ()) else (some false, ())) w
  | 0, i, r, h, w => by cases ret_H.1 (show (C.ret (true, true)).H r from h); simp
  | m + 1, i, r, h, w => by
    obtain ⟨x, hx, h2⟩ := bnd_H.1 (show (bnd (partC P D e xs (i * k)) fun x => bnd (partC P D e ys (i * k)) fun y => bnd (ih e x y) fun r => bnd (eqElems P D ih e k xs ys m (i + 1)) fun r' => .ret (both2 r r')).H r from h)
    obtain ⟨y, hy, h3⟩ := bnd_H.1 h2
    obtain ⟨q, hq, h4⟩ := bnd_H.1 h3
    obtain ⟨q2, hq2, h5⟩ := bnd_H.1 h4
    cases ret_H.1 h5
    obtain ⟨x', rx, vx⟩ := partC_run hx hX
    obtain ⟨y', ry, vy⟩ := partC_run hy hY
    have he := hih _ _ _ _ _ _ hq vx vy w
    have ihf := eqElems_run hX hY hih hq2 w
    rw [List.range'_succ, List.forIn_cons, both2_fst]
    cases hq1 : q.1 with
    | true =>
      rw [hq1] at he
      simp only [Sem.run_bind, rx, ry, he, Result.andThen_ok, Bool.not_true, Bool.false_eq_true, if_false, Sem.run_pure, Bool.true_and]
      exact ihf
    | false =>
      rw [hq1] at he
      simp only [Sem.run_bind, rx, ry, he, Result.andThen_ok, Bool.not_false, if_true, Sem.run_pure, Bool.false_eq_true, if_false, Bool.false_and]
theorem eqT_run : ∀ (m : Nat) (n : Nat) (t : TypeId) (x y : AV D.E) (x' y' : Value) (r : Bool × Bool), (eqT P D m t x y).H r → VR M x x' → VR M y y' → ∀ w, (Op.equalIn (n + m) t x' y').run P w = .ok r.1 w
  | 0, n, t, x, y, x', y', r, h, _, _, w => (h : False).elim
  | m + 1, n, t, x, y, x', y', r, h, hx, hy, w => by
    obtain ⟨d, hd, h1⟩ := bnd_H.1 (show (bnd (und P t) fun d => eqD P D (eqT P D m) t d x y).H r from h)
    rw [und_H] at hd
    have hih := fun t x y x' y' r h hx hy w => eqT_run m n t x y x' y' r h hx hy w
    have base : ∀ d', d' = d → (eqBase D d' x y).H r → (Op.equalIn (n + (m + 1)) t x' y').run P w = .ok r.1 w := fun d' e hb => eqBase_run (c := r.2) hb (e ▸ hd) hx hy (n + m) w
    cases d with
    | struct fs =>
      obtain ⟨xs, hxs, h2⟩ := bnd_H.1 (show (bnd (asAgg x) fun xs => bnd (asAgg y) fun ys => bE (P.stoodInHeld t) .fail (eqFields P D (eqT P D m) xs ys fs.toList)).H r from h1)
      obtain ⟨ys, hys, h3⟩ := bnd_H.1 h2
      obtain ⟨hst, h4⟩ : P.stoodInHeld t = false ∧ (eqFields P D (eqT P D m) xs ys fs.toList).H r := by
        rcases bE_H.1 h3 with ⟨_, h9⟩ | ⟨h8, h9⟩
        · exact h9.elim
        · exact ⟨h8, h9⟩
      obtain ⟨X, rfl, hX⟩ := asAgg_VR hxs hx
      obtain ⟨Y, rfl, hY⟩ := asAgg_VR hys hy
      have hl := eqFields_run hX hY hih h4 w
      rw [Nat.add_succ]
      unfold Op.equalIn
      simp only [Sem.run_bind, run_underlying hd, Result.andThen_ok, program, Sem.run, hst, Bool.false_eq_true, if_false]
      rw [← Array.forIn_toList]
      rw [hl]
      cases r.1 <;> simp
    | array len e =>
      obtain ⟨xs, hxs, h2⟩ := bnd_H.1 (show (bnd (asAgg x) fun xs => bnd (asAgg y) fun ys => bnd (sz P e) fun k => eqElems P D (eqT P D m) e k xs ys len 0).H r from h1)
      obtain ⟨ys, hys, h3⟩ := bnd_H.1 h2
      obtain ⟨k, hk, h4⟩ := bnd_H.1 h3
      rw [sz_H] at hk
      obtain ⟨X, rfl, hX⟩ := asAgg_VR hxs hx
      obtain ⟨Y, rfl, hY⟩ := asAgg_VR hys hy
      have hl := eqElems_run hX hY hih h4 w
      rw [Nat.add_succ]
      unfold Op.equalIn
      simp only [Sem.run_bind, run_underlying hd, Result.andThen_ok, run_size hk]
      rw [Std.Legacy.Range.forIn_eq_forIn_range']
      simp only [Std.Legacy.Range.size]
      rw [show (len - 0 + 1 - 1) / 1 = len by simp, hl]
      cases r.1 <;> simp
    | _ => exact base _ rfl h1
def plainEq (x y : Value) : Bool := match x with
  | .agg _ => match y with
    | .agg _ => false
    | _ => true
  | .nilIface => match y with
    | .nilIface => false
    | _ => true
  | _ => true
theorem eqGuard_plain (op : BinOp) (t : TypeId) (ox oy : Operand) (x y : Value) (h : plainEq x y = true) (w : World) : (eqGuard op t ox oy x y).run P w = .ok () w := by
  cases op <;> first | rfl | (cases x <;> first | rfl | (cases y <;> first | rfl | cases h))
theorem eqAll_run {t : TypeId} {x y : AV D.E} {x' y' : Value} {r : Bool × Bool} (h : (eqAll P D t x y).H r) (hx : VR M x x') (hy : VR M y y') (op : BinOp) (ox oy : Operand) (w : World) : (Op.equal t x' y').run P w = .ok r.1 w ∧ (eqGuard op t ox oy x' y').run P w = .ok () w := by
  have eqA : (eqT P D 4 t x y).H r → (Op.equal t x' y').run P w = .ok r.1 w := fun h => eqT_run 4 9996 t x y x' y' r h hx hy w
  by_cases h1 : ∃ cs, x = .agg cs
  · obtain ⟨cs, rfl⟩ := h1
    rcases bE_H.1 (show (bE (P.eqGuardType P.depth t) .fail (eqT P D 4 t (.agg cs) y)).H r from h) with ⟨_, h9⟩ | ⟨h8, h9⟩
    · exact h9.elim
    · refine ⟨eqA h9, ?_⟩
      cases hx
      cases y' <;> first | exact run_eqGuard_agg w op t ox oy _ _ h8 | exact eqGuard_plain op t ox oy _ _ rfl w
  · by_cases h2 : x = .nilIface
    · subst h2
      by_cases h3 : y = .nilIface
      · subst h3; exact (h : False).elim
      · have h4 : (eqT P D 4 t .nilIface y).H r := by
          cases y <;> first | exact h | exact absurd rfl h3
        refine ⟨eqA h4, eqGuard_plain op t ox oy _ _ ?_ w⟩
        cases hx
        cases hy <;> first | rfl | exact absurd rfl h3
    · have h4 : (eqT P D 4 t x y).H r := by
        cases x <;> first | exact h | exact absurd ⟨_, rfl⟩ h1 | exact absurd rfl h2
      refine ⟨eqA h4, eqGuard_plain op t ox oy _ _ ?_ w⟩
      cases hx <;> first | rfl | exact absurd ⟨_, rfl⟩ h1 | exact absurd rfl h2
theorem mkT_VR (b c : Bool) : VR M (mkT D b c) (.bool b) := by
  cases c
  · exact .bool b
  · exact .lit b
theorem binA_run {op : BinOp} {t : TypeId} {x y v : AV D.E} {x' y' : Value} (h : (binA P D op t x y).H v) (hx : VR M x x') (hy : VR M y y') (ox oy : Operand) (w : World) :
    ∃ v', (do eqGuard op t ox oy x' y'; binOp op t x' y' : Sem Value).run P w = .ok v' w ∧ VR M v v' := by
  have eqs : ∀ (hb : ∀ (z : Value), (binOp .eql t x' z) = (do Pure.pure (.bool (← Op.equal t x' z))) ∧ (binOp .neq t x' z) = (do Pure.pure (.bool (!(← Op.equal t x' z))))), (binEq P D op t x y).H v →
      ∃ v', (do eqGuard op t ox oy x' y'; binOp op t x' y' : Sem Value).run P w = .ok v' w ∧ VR M v v' := by
    intro hb h1
    cases op <;> simp only [binEq] at h1 <;> (try exact h1.elim)
    · obtain ⟨r, c, hr, h2⟩ := bnd2_H.1 h1
      cases ret_H.1 h2
      obtain ⟨e1, e2⟩ := eqAll_run hr hx hy .eql ox oy w
      exact ⟨.bool r, by simp only [Sem.run_bind, e2, Result.andThen_ok, (hb y').1, e1, Sem.run_pure], mkT_VR r c⟩
    · obtain ⟨r, c, hr, h2⟩ := bnd2_H.1 h1
      cases ret_H.1 h2
      obtain ⟨e1, e2⟩ := eqAll_run hr hx hy .neq ox oy w
      exact ⟨.bool (!r), by simp only [Sem.run_bind, e2, Result.andThen_ok, (hb y').2, e1, Sem.run_pure], mkT_VR (!r) c⟩
  have ints : ∀ {k k' : IntKind} {a b : Int}, x' = .int k a → y' = .int k' b → (∃ v', (∀ w, (binOp op t (.int k a) (.int k' b)).run P w = .ok v' w) ∧ VR M v v') → ∃ v', (do eqGuard op t ox oy x' y'; binOp op t x' y' : Sem Value).run P w = .ok v' w ∧ VR M v v' := by
    rintro k k' a b rfl rfl ⟨v', h1, h2⟩
    exact ⟨v', by simp only [Sem.run_bind, eqGuard_plain op t ox oy (.int k a) (.int k' b) rfl w, Result.andThen_ok, h1], h2⟩
  cases hx with
  | @int k a hin =>
    obtain ⟨k', b, h1, h2⟩ := bnd2_H.1 (show (bnd2 (asI y) fun k' b => binO D op k k' a b).H v from h)
    obtain ⟨rfl, _⟩ := asI_VR h1 hy
    exact ints rfl rfl (binO_run h2 hin t)
  | num hin =>
    cases y <;> first | exact (h : False).elim | skip
    case int k' b =>
      cases hy
      exact ints rfl rfl (binO_run h hin t)
    case num k' b =>
      cases hy
      obtain ⟨cv, h1, h2⟩ := bnd_H.1 h
      cases ret_H.1 h2
      obtain ⟨e1, e2⟩ := binInt_run (P := P) (ofO_H.1 h1) hin t
      exact ints rfl rfl ⟨_, e1, cv_VR e2⟩
  | @str a hl =>
    obtain ⟨b, h1, h2⟩ := bnd_H.1 (show (bnd (asStr y) fun b => binStr D op a b).H v from h)
    obtain ⟨rfl, _⟩ := asStr_VR h1 hy
    obtain ⟨v', e1, e2⟩ := binStr_run (P := P) (M := M) h2 t
    exact ⟨v', by simp only [Sem.run_bind, eqGuard_plain op t ox oy (.string ⟨⟨a⟩⟩) (.string ⟨⟨b⟩⟩) rfl w, Result.andThen_ok, e1], e2⟩
  | _ => exact eqs (fun z => ⟨rfl, rfl⟩) h
theorem unA_run {op : UnOp} {x v : AV D.E} {x' : Value} (h : (unA D op x).H v) (hx : VR M x x') : ∃ v', (∀ w, (Op.unary op x').run P w = .ok v' w) ∧ VR M v v' := by
  cases op <;> simp only [unA] at h <;> (try exact h.elim)
  case neg =>
    cases x <;> simp only at h <;> (try exact h.elim)
    case int k n =>
      cases ret_H.1 h
      cases hx
      refine ⟨.int k (k.wrap (0 - n)), fun w => by simp only [Op.unary, Op.intArith, Sem.run_pure], ?_⟩
      rw [Int.zero_sub]
      exact .int (wrap_inR _ _)
    case num k n =>
      obtain ⟨c, hc, h1⟩ := bnd_H.1 h
      cases ret_H.1 h1
      have hc := ofO_H.1 hc
      rw [mkI_some, wrapA_eq] at hc
      subst hc
      cases hx
      refine ⟨.int k (k.wrap (0 - n)), fun w => by simp only [Op.unary, Op.intArith, Sem.run_pure], ?_⟩
      rw [Int.zero_sub]
      exact .num (wrap_inR _ _)
  case xor =>
    have hxr : ∀ (k : IntKind) (n : Int), (BitVec.ofInt k.bits (if k.signed then -1 else k.max) ^^^ BitVec.ofInt k.bits n).toNat = Nat.xor (kMod k - 1) (toN k n) := fun k n => by
      rw [BitVec.toNat_xor, ← toN_eq, ← toN_eq]
      congr 1
      cases k <;> rfl
    cases x <;> simp only at h <;> (try exact h.elim)
    case int k n =>
      cases ret_H.1 h
      cases hx
      exact ⟨_, fun w => by simp only [Op.unary, Op.intBits, Sem.run_pure]; rfl, by rw [hxr]; exact .int (wrap_inR _ _)⟩
    case num k n =>
      obtain ⟨c, hc, h1⟩ := bnd_H.1 h
      cases ret_H.1 h1
      have hc := bitA_some (ofO_H.1 hc)
      subst hc
      cases hx
      exact ⟨_, fun w => by simp only [Op.unary, Op.intBits, Sem.run_pure]; rfl, by rw [hxr]; exact .num (wrap_inR _ _)⟩
  case not =>
    obtain ⟨b, c, h1, h2⟩ := bnd2_H.1 h
    cases ret_H.1 h2
    obtain rfl := asT_VR h1 hx
    exact ⟨.bool (!b), fun w => by simp only [Op.unary, Sem.run_pure], mkT_VR (!b) c⟩
theorem isConst_some {x : Operand} (h : isConst x = true) : ∃ v, x = .const v := by
  cases x <;> first | exact ⟨_, rfl⟩ | cases (show false = true from h)
theorem isNI_some {v : AV D.E} (h : isNI D v = true) : v = .nilIface := by
  cases v <;> first | rfl | cases (show false = true from h)
theorem nn_guard {op : BinOp} {t : TypeId} {ox oy : Operand} (hc : (∃ v, ox = .const v) ∨ (∃ v, oy = .const v)) (w : World) : (eqGuard op t ox oy .nilIface .nilIface).run P w = .ok () w := by
  rcases hc with ⟨v, rfl⟩ | ⟨v, rfl⟩
  · cases op <;> rfl
  · cases ox <;> cases op <;> rfl
theorem binN_run {op : BinOp} {t : TypeId} {ox oy : Operand} {x y v : AV D.E} {x' y' : Value} (h : (binN P D op t ox oy x y).H v) (hx : VR M x x') (hy : VR M y y') (w : World) :
    ∃ v', (do eqGuard op t ox oy x' y'; binOp op t x' y' : Sem Value).run P w = .ok v' w ∧ VR M v v' := by
  rcases bE_H.1 h with ⟨h1, h2⟩ | ⟨_, h2⟩
  · obtain ⟨h3, h4⟩ := and2 h1
    obtain ⟨h5, h6⟩ := and2 h4
    obtain rfl := isNI_some h5
    obtain rfl := isNI_some h6
    have hc : (∃ v, ox = .const v) ∨ (∃ v, oy = .const v) := by
      rcases or2 h3 with q | q
      · exact .inl (isConst_some q)
      · exact .inr (isConst_some q)
    obtain ⟨d, hd, h7⟩ := bnd_H.1 h2
    obtain ⟨h8, h9⟩ := bB_H.1 h7
    have hd : P.underlying t = some d := ofO_H.1 hd
    cases hx
    cases hy
    have e : (Op.equal t .nilIface .nilIface).run P w = .ok true w := by
      cases d <;> first | (cases (show false = true from h8); done) | skip
      show (Op.equalIn (9999 + 1) t _ _).run P w = _
      unfold Op.equalIn
      simp only [Sem.run_bind, run_underlying hd, Result.andThen_ok, Sem.run_pure]
    have g : (eqGuard op t ox oy .nilIface .nilIface).run P w = .ok () w := nn_guard hc w
    cases op <;> first | exact (show False from h9).elim | skip
    · cases ret_H.1 h9
      have hb : binOp .eql t .nilIface .nilIface = (do Pure.pure (.bool (← Op.equal t .nilIface .nilIface))) := rfl
      exact ⟨.bool true, by simp only [Sem.run_bind, g, Result.andThen_ok, hb, e, Sem.run_pure], .lit true⟩
    · cases ret_H.1 h9
      have hb : binOp .neq t .nilIface .nilIface = (do Pure.pure (.bool (!(← Op.equal t .nilIface .nilIface)))) := rfl
      exact ⟨.bool false, by simp only [Sem.run_bind, g, Result.andThen_ok, hb, e, Sem.run_pure, Bool.not_true], .lit false⟩
  · exact binA_run h2 hx hy ox oy w
end
end Go.Proofs.YtjdehneddakpnaaGreatDoor.sx
namespace Go.Proofs.YtjdehneddakpnaaGreatDoor.sx
open Go Go.RowKit
section
variable {P : Program} {D : Data} {cd : TypeId → Option Nat} {M M' : Pm D} {φ φ' : T (AV D.E)} {a : Act} {N : Nat} {w w' : World} {H : Hp D} {s s' : St D.E}
theorem opNil_run {x v : AV D.E} {x' : Value} (h : (opNil D x).H v) (hx : VR M x x') : ∀ w, ((match x' with
    | .pointer none | .nilIface | .nilFunc => runtimePanic .nilDeref
    | .func (.method name) first captured =>
      match (first[0]? : Option Value) with
      | some .nilIface => runtimePanic .nilDeref
      | some (.iface t w) => do
        if (← nilAhead ((← program).types.size + Made.depth) t w name) != some false then
          unsupported (.noEntry "op/nilCheck.the method's receiver behind this interface value is a nil pointer, or cannot be seen to be none, and the arguments act or may panic (ledger 612)")
        Pure.pure (.value (.func (.method name) first captured))
      | _ => Pure.pure (.value (.func (.method name) first captured))
    | x => Pure.pure (.value x) : Sem Next)).run P w = .ok (.value x') w ∧ v = x := by
  intro w
  unfold opNil at h
  cases hx <;> simp only at h <;> (try exact h.elim)
  case ptr => cases ret_H.1 h; exact ⟨rfl, rfl⟩
  case glob => cases ret_H.1 h; exact ⟨rfl, rfl⟩
  case pix => cases ret_H.1 h; exact ⟨rfl, rfl⟩
  case pel => cases ret_H.1 h; exact ⟨rfl, rfl⟩
  case func fn _ _ _ _ _ _ _ _ =>
    cases fn <;> simp only at h <;> (try exact h.elim)
    cases ret_H.1 h
    exact ⟨rfl, rfl⟩
theorem opIface_run {t : TypeId} {x v : AV D.E} {x' : Value} (h : (opIface P D t x).H v) (hx : VR M x x') : ∃ v', (∀ w, (Instr.makeInterface t x').run P w = .ok v' w) ∧ VR M v v' := by
  obtain ⟨d, hd, h1⟩ := bnd_H.1 h
  rw [und_H] at hd
  cases d <;> simp only at h1 <;> (try exact h1.elim)
  all_goals (cases ret_H.1 h1; exact ⟨_, fun w => by simp only [Instr.makeInterface, Sem.run_bind, run_underlying hd, Result.andThen_ok, Sem.run_pure], .iface t hx⟩)
theorem foldMM_run {mn : Bool} {F : Value → Value → Sem Value} (hF : ∀ (k : IntKind) (x y : Int) (w : World), (F (.int k x) (.int k y)).run P w = .ok (.int k (bif mn then imin x y else imax x y)) w) : ∀ {vs : List (AV D.E)} {vs' : List Value} {x v : AV D.E} {x' : Value}, (foldMM D mn vs x).H v → LR M vs vs' → VR M x x' →
    ∃ v', (∀ w, (vs'.foldlM F x').run P w = .ok v' w) ∧ VR M v v'
  | [], vs', x, v, x', h, hl, hx => by
    cases ret_H.1 (show (C.ret x).H v from h)
    rw [hl.nil_l]
    exact ⟨x', fun w => by simp, hx⟩
  | y :: vs, vs', x, v, x', h, hl, hx => by
    obtain ⟨k, a, e1, h1⟩ := bnd2_H.1 (show (bnd2 (asI x) fun k a => bnd2 (asI y) fun k' b => bB (kEq k k') (foldMM D mn vs (.int k (bif mn then imin a b else imax a b)))).H v from h)
    obtain ⟨k', b, e2, h2⟩ := bnd2_H.1 h1
    obtain ⟨e3, h3⟩ := bB_H.1 h2
    obtain rfl := kEq_iff.1 e3
    obtain ⟨y', r, rfl, hy, hr⟩ := hl.uncons
    obtain ⟨rfl, i1⟩ := asI_VR e1 hx
    obtain ⟨rfl, i2⟩ := asI_VR e2 hy
    have hin : inR k (bif mn then imin a b else imax a b) = true := by
      cases mn
      · show inR k (imax a b) = true; unfold imax; split <;> assumption
      · show inR k (imin a b) = true; unfold imin; split <;> assumption
    obtain ⟨v', h4, h5⟩ := foldMM_run hF h3 hr (.int hin)
    exact ⟨v', fun w => by simp only [List.foldlM_cons, Sem.run_bind, hF, Result.andThen_ok]; exact h4 w, h5⟩
theorem min_run {vs : List (AV D.E)} {A : Array Value} {x v : AV D.E} {ts : Array TypeId} {ty : TypeId} (h : (foldMM D true (sDrop 1 vs) x).H v) (h0 : lGet vs 0 = some x) (hl : LR M vs A.toList) : ∃ v', (∀ w, (Builtin.min_ ts ty A).run P w = .ok v' w) ∧ VR M v v' := by
  cases vs with
  | nil => cases h0
  | cons y vs =>
    cases (show some y = some x from h0)
    obtain ⟨y', r, e, hy, hr⟩ := hl.uncons
    obtain ⟨v', h1, h2⟩ := foldMM_run (P := P) (F := Builtin.min2) (fun k x y w => by simp [Builtin.min2, imin]) (show (foldMM D true vs x).H v from h) hr hy
    exact ⟨v', fun w => by simp only [Builtin.min_, e]; exact h1 w, h2⟩
theorem max_run {vs : List (AV D.E)} {A : Array Value} {x v : AV D.E} {ts : Array TypeId} {ty : TypeId} (h : (foldMM D false (sDrop 1 vs) x).H v) (h0 : lGet vs 0 = some x) (hl : LR M vs A.toList) : ∃ v', (∀ w, (Builtin.max_ ts ty A).run P w = .ok v' w) ∧ VR M v v' := by
  cases vs with
  | nil => cases h0
  | cons y vs =>
    cases (show some y = some x from h0)
    obtain ⟨y', r, e, hy, hr⟩ := hl.uncons
    obtain ⟨v', h1, h2⟩ := foldMM_run (P := P) (F := Builtin.max2) (fun k x y w => by simp [Builtin.max2, imax]) (show (foldMM D false vs x).H v from h) hr hy
    exact ⟨v', fun w => by simp only [Builtin.max_, e]; exact h1 w, h2⟩
theorem byLen_VR {x v : AV D.E} {x' : Value} (h : (byLen D x).H v) (hx : VR M x x') : ∃ ad n cap, x' = .slice ad n cap ∧ VR M v (goInt n) := by
  have hv : ∀ n : Nat, n ≤ 9223372036854775807 → VR M (.int .i64 (n : Int) : AV D.E) (goInt n) := fun n hn => .int (nat_inR hn)
  cases hx <;> simp only [byLen] at h <;> (try exact h.elim)
  case snil => cases ret_H.1 h; exact ⟨_, _, _, rfl, .num (nat_inR (Nat.zero_le _))⟩
  case own hpl hke hr hn hm hc ht => cases ret_H.1 h; subst hn; exact ⟨_, _, _, rfl, hv _ hm⟩
  case ownV hpl hke hr hn hl => cases ret_H.1 h; subst hn; exact ⟨_, _, _, rfl, hv 0 (Nat.zero_le _)⟩
  case pre hpl hke hr hn hm hl hc ht => cases ret_H.1 h; subst hn; exact ⟨_, _, _, rfl, hv _ (by omega)⟩
  case preV hpl hke hr hn hl => cases ret_H.1 h; subst hn; exact ⟨_, _, _, rfl, hv 0 (Nat.zero_le _)⟩
  case part hpl hke hr hn ho hl hm hc => cases ret_H.1 h; subst hn; exact ⟨_, _, _, rfl, hv _ (by omega)⟩
  case partZ hpl hke hn ho => cases ret_H.1 h; subst hn; exact ⟨_, _, _, rfl, hv 0 (Nat.zero_le _)⟩
  case grow hpl hr hl hz hs hm hc ht => cases ret_H.1 h; exact ⟨_, _, _, rfl, hv _ hm⟩
  case growV hpl hr => cases ret_H.1 h; exact ⟨_, _, _, rfl, hv 0 (Nat.zero_le _)⟩
  case sub hpl hr hc hm =>
    obtain ⟨c, hc2, h1⟩ := bnd_H.1 h
    cases ret_H.1 h1
    have hc2 := mkN_some.1 (ofO_H.1 hc2)
    subst hc2
    exact ⟨_, _, _, rfl, .num (nat_inR hm)⟩
  case subZ =>
    obtain ⟨c, hc2, h1⟩ := bnd_H.1 h
    cases ret_H.1 h1
    have hc2 := mkN_some.1 (ofO_H.1 hc2)
    subst hc2
    exact ⟨_, _, _, rfl, .num (nat_inR (Nat.zero_le _))⟩
  case list hs hm hc => cases ret_H.1 h; exact ⟨_, _, _, rfl, hv _ hm⟩
  case listZ => cases ret_H.1 h; exact ⟨_, _, _, rfl, hv 0 (Nat.zero_le _)⟩
theorem lenA_run {t ty : TypeId} {x v : AV D.E} {x' : Value} (h : (lenA P D t x).H v) (hx : VR M x x') (ts : Array TypeId) (vs : Array Value) (h0 : ts[0]? = some t) (h1 : vs[0]? = some x') :
    ∃ v', (Builtin.len_ ts ty vs).run P w = .ok v' w ∧ VR M v v' := by
  obtain ⟨d, hd, h2⟩ := bnd_H.1 h
  rw [und_H] at hd
  cases d <;> simp only at h2 <;> (try exact h2.elim)
  case string =>
    obtain ⟨l, hl, h3⟩ := bnd_H.1 h2
    cases ret_H.1 h3
    obtain ⟨rfl, hl64⟩ := asStr_VR hl hx
    have hsz : (⟨⟨l⟩⟩ : ByteArray).size = l.length := rfl
    exact ⟨goInt l.length, by simp [Builtin.len_, h0, h1, run_underlying hd, hsz], .int (nat_inR hl64)⟩
  case slice e =>
    obtain ⟨ad, n, cap, rfl, hv⟩ := byLen_VR h2 hx
    exact ⟨goInt n, by simp [Builtin.len_, h0, h1, run_underlying hd], hv⟩
  case array n e =>
    obtain ⟨c, hc2, h3⟩ := bnd_H.1 h2
    obtain ⟨hb, h4⟩ := bB_H.1 h3
    cases ret_H.1 h4
    have hc2 := mkN_some.1 (ofO_H.1 hc2)
    subst hc2
    have hb' : n ≤ 1099511627776 := ble_nat.1 hb
    exact ⟨_, by simp [Builtin.len_, h0, h1, run_underlying hd]; rfl, .num (nat_inR (by omega))⟩
def exOf (e : Ex) : Exit := match e with
  | .normal => .normal
  | .exit id => .exit id
  | .ret => .ret
/-- what is said of a call is right -/
def CallOk (P : Program) (D : Data) (f : FuncId) (args : List (AV D.E)) (s : St D.E) (v : AV D.E) (s' : St D.E) : Prop := s.nx ≤ s'.nx ∧ (∃ fn c, P.funcs[f]? = some fn ∧ fn.body = some c) ∧
  ∀ (M : Pm D) (A : Array Value) (w : World), LR M args A.toList → Sim M s.h.get w → Fresh M s.nx s'.nx →
    ∀ R : Ending → World → Prop, (∀ M' v' w', VR M' v v' → Stp s.h.get M w s'.h.get M' w' s.nx s'.nx → R (.returned v') w') → Calls P f A w R
def CaOk (P : Program) (D : Data) (ca : CaF D.E) : Prop := ∀ (f : FuncId) (args : List (AV D.E)) (s : St D.E) (v : AV D.E) (s' : St D.E), (ca f args s).H (v, s') → CallOk P D f args s v s'
/-- an operation does what was computed -/
def OpOk (P : Program) (o : Oper) (a : Act) (s : St D.E) (M : Pm D) (w : World) (v : AV D.E) (s' : St D.E) : Prop :=
  (∃ M' v' w', ((execOp a.eval o).run P w = .ok (.value v') w' ∨ ((execOp a.eval o).run P w = .ok .skip w' ∧ v' = Go.undef)) ∧ VR M' v v' ∧ Stp s.h.get M w s'.h.get M' w' s.nx s'.nx) ∨
  (∃ f A, (execOp a.eval o).run P w = .ok (.enter f A) w ∧ ∀ R : Ending → World → Prop, (∀ M' v' w', VR M' v v' → Stp s.h.get M w s'.h.get M' w' s.nx s'.nx → R (.returned v') w') → Calls P f A w R)
theorem OpOk.wp {o : Oper} {v : AV D.E} {a2 : Act} (h : OpOk P o a s M w v s') (he : execOp a2.eval o = execOp a.eval o) (K : Act → World → Prop) (Q : Exit → Act → World → Prop)
    (hK : ∀ M' v' w', VR M' v v' → Stp s.h.get M w s'.h.get M' w' s.nx s'.nx → K (a2.put o.dst v') w') : o.wp P a2 w K Q := by
  unfold Oper.wp
  rw [he]
  rcases h with ⟨M', v', w', h1 | ⟨h1, rfl⟩, hv, hs⟩ | ⟨f, A, h1, h2⟩
  · rw [h1]; exact hK M' v' w' hv hs
  · rw [h1]; exact hK M' Go.undef w' hv hs
  · rw [h1]; exact h2 _ fun M' v' w' hv hs => hK M' v' w' hv hs
theorem OpOk.same {o : Oper} {v v2 : AV D.E} (h : OpOk P o a s M w v s') (hv : ∀ M' v', VR M' v v' → VR M' v2 v') : OpOk P o a s M w v2 s' := by
  rcases h with ⟨M', v', w', h1, h2, hs⟩ | ⟨f, A, h1, h2⟩
  · exact .inl ⟨M', v', w', h1, hv _ _ h2, hs⟩
  · exact .inr ⟨f, A, h1, fun R hR => h2 R fun M' v' w' h3 hs => hR M' v' w' (hv _ _ h3) hs⟩
theorem OpOk.value {o : Oper} {v : AV D.E} {v' : Value} {w' : World} (h : (execOp a.eval o).run P w = .ok (.value v') w') (hv : VR M' v v') (hs : Stp s.h.get M w s'.h.get M' w' s.nx s'.nx) : OpOk P o a s M w v s' :=
  .inl ⟨M', v', w', .inl h, hv, hs⟩
theorem OpOk.res {o : Oper} {v : AV D.E} {r : Result Value} (hr : Res s M w r v s') (h : ∀ v' w', r = .ok v' w' → (execOp a.eval o).run P w = .ok (.value v') w') : OpOk P o a s M w v s' := by
  obtain ⟨M', v', w', e, hv, hs⟩ := hr
  exact .value (h v' w' e) hv hs
theorem OpOk.pure {o : Oper} {v : AV D.E} {v' : Value} (hS : Sim M s.h.get w) (h : (execOp a.eval o).run P w = .ok (.value v') w) (hv : VR M v v') : OpOk P o a s M w v s := .value h hv (.refl hS _)
theorem OpOk.skip {o : Oper} {r : Result Unit} (hr : ResU s M w r s') (h : ∀ w', r = .ok () w' → (execOp a.eval o).run P w = .ok .skip w') : OpOk P o a s M w undef s' := by
  obtain ⟨M', w', e, hs⟩ := hr
  exact .inl ⟨M', Go.undef, w', .inr ⟨h w' e, rfl⟩, .undef, hs⟩
theorem pureS_H {x : C (AV D.E)} {v : AV D.E} (h : (pureS D s x).H (v, s')) : x.H v ∧ s' = s := by
  obtain ⟨u, hu, h1⟩ := bnd_H.1 h
  cases ret_H.1 h1
  exact ⟨hu, rfl⟩
theorem undS_H {x : C (St D.E)} {v : AV D.E} (h : (undS D x).H (v, s')) : x.H s' ∧ v = undef := by
  obtain ⟨u, hu, h1⟩ := bnd_H.1 h
  cases ret_H.1 h1
  exact ⟨hu, rfl⟩
theorem run_v {α : Type} {x : Sem α} {f : α → Next} {v : α} {w w' : World} (h : x.run P w = .ok v w') : (do Pure.pure (f (← x)) : Sem Next).run P w = .ok (f v) w' := by
  simp only [Sem.run_bind, h, Result.andThen_ok, Sem.run_pure]
theorem run_u {x : Sem Unit} {w w' : World} (h : x.run P w = .ok () w') : (do x; Pure.pure .skip : Sem Next).run P w = .ok .skip w' := by
  simp only [Sem.run_bind, h, Result.andThen_ok, Sem.run_pure]
theorem evs_arr {xs : Array Operand} {vs : List (AV D.E)} (h : (evs P D φ xs.toList).H vs) (hf : FR M φ a N) : LR M vs (xs.map a.eval).toList := by
  rw [Array.toList_map]
  exact evs_LR h hf
theorem evsAt {xs : Array Operand} {vs : List (AV D.E)} {i : Nat} {v : AV D.E} (h : (evs P D φ xs.toList).H vs) (hf : FR M φ a N) (hv : lGet vs i = some v) : ∃ v', (xs.map a.eval)[i]? = some v' ∧ VR M v v' := by
  rw [lGet_eq] at hv
  obtain ⟨v', h1, h2⟩ := (evs_arr h hf).get hv
  exact ⟨v', by rw [← Array.getElem?_toList]; exact h1, h2⟩
theorem tsAt {ts : Array TypeId} {i : Nat} {t : TypeId} (h : lGet ts.toList i = some t) : ts[i]? = some t := by
  rw [lGet_eq, Array.getElem?_toList] at h
  exact h
theorem opBuiltin_ok (hD : DataOk D) {mu : Bool} {b : Builtin} {o : Oper} {c : Call} {vs : List (AV D.E)} {v : AV D.E} (ho : o.op = .call c) (hc : c.callee = .builtin b) (hvs : (evs P D φ c.args.toList).H vs) (h : (opBuiltin P D cd mu b s c.argTypes.toList vs).H (v, s')) (hS : Sim M s.h.get w) (hf : FR M φ a N) (hfr : Fresh M s.nx s'.nx) :
    OpOk P o a s M w v s' := by
  have hx : ∀ (x : Sem Next), (do let d ← resolve a.eval c o.type; invoke d.target d.args : Sem Next) = x → (execOp a.eval o) = x := fun x hx => by
    unfold execOp; rw [ho]; exact hx
  have he : (execOp a.eval o) = builtin b c.argTypes o.type (c.args.map fun | .const _ => true | _ => false) (c.args.map a.eval) := hx _ (by
    unfold resolve
    rw [hc]
    rfl)
  cases b <;> simp only [opBuiltin] at h <;> (try exact h.elim)
  case append =>
    obtain ⟨t, ht, h1⟩ := bnd_H.1 h
    obtain ⟨u, hu, h2⟩ := bnd_H.1 h1
    obtain ⟨d, hd, h3⟩ := bnd_H.1 h2
    obtain ⟨x, hx2, h4⟩ := bnd_H.1 h3
    rw [ofO_H] at ht hu hd hx2
    obtain ⟨d', hd1, hd2⟩ := evsAt hvs hf hd
    obtain ⟨x', hx1, hx3⟩ := evsAt hvs hf hx2
    have hr := appendA_run (ty := o.type) hD h4 hd2 hx3 hS hfr
    refine OpOk.res hr fun v' w' e => ?_
    rw [he]
    have e2 : (Builtin.append_ c.argTypes o.type (c.args.map a.eval)) = Builtin.append_ #[t, u] o.type #[d', x'] := by
      unfold Builtin.append_
      rw [tsAt ht, tsAt hu, hd1, hx1]
      rfl
    exact run_v (by rw [e2]; exact e)
  case copy =>
    obtain ⟨t, ht, h1⟩ := bnd_H.1 h
    obtain ⟨d, hd, h3⟩ := bnd_H.1 h1
    obtain ⟨x, hx2, h4⟩ := bnd_H.1 h3
    rw [ofO_H] at ht hd hx2
    obtain ⟨d', hd1, hd2⟩ := evsAt hvs hf hd
    obtain ⟨x', hx1, hx3⟩ := evsAt hvs hf hx2
    exact OpOk.res (copyA_run (ty := o.type) hD h4 hd2 hx3 hS (tsAt ht) hd1 hx1) fun v' w' e => by rw [he]; exact run_v e
  case len =>
    obtain ⟨t, ht, h1⟩ := bnd_H.1 h
    obtain ⟨x, hx2, h4⟩ := bnd_H.1 h1
    rw [ofO_H] at ht hx2
    obtain ⟨x', hx1, hx3⟩ := evsAt hvs hf hx2
    obtain ⟨h5, rfl⟩ := pureS_H h4
    obtain ⟨v', h6, h7⟩ := lenA_run (P := P) (w := w) (ty := o.type) h5 hx3 c.argTypes (c.args.map a.eval) (tsAt ht) hx1
    exact OpOk.pure hS (by rw [he]; exact run_v h6) h7
  case min =>
    obtain ⟨x, hx2, h4⟩ := bnd_H.1 h
    rw [ofO_H] at hx2
    obtain ⟨h5, rfl⟩ := pureS_H h4
    obtain ⟨v', h6, h7⟩ := min_run (P := P) (ts := c.argTypes) (ty := o.type) h5 hx2 (evs_arr hvs hf)
    exact OpOk.pure hS (by rw [he]; exact run_v (h6 w)) h7
  case max =>
    obtain ⟨x, hx2, h4⟩ := bnd_H.1 h
    rw [ofO_H] at hx2
    obtain ⟨h5, rfl⟩ := pureS_H h4
    obtain ⟨v', h6, h7⟩ := max_run (P := P) (ts := c.argTypes) (ty := o.type) h5 hx2 (evs_arr hvs hf)
    exact OpOk.pure hS (by rw [he]; exact run_v (h6 w)) h7
  case clear =>
    obtain ⟨t, ht, h1⟩ := bnd_H.1 h
    obtain ⟨x, hx2, h4⟩ := bnd_H.1 h1
    rw [ofO_H] at ht hx2
    obtain ⟨x', hx1, hx3⟩ := evsAt hvs hf hx2
    exact OpOk.res (opClear_run (ty := o.type) hD h4 hx3 hS (tsAt ht) hx1) fun v' w' e => by rw [he]; exact run_v e
/-- no function that counts goroutines has a body -/
def NoNG (P : Program) : Prop := ∀ (f : FuncId) (fn : Func), P.funcs[f]? = some fn → (fn.name == "runtime.NumGoroutine" && fn.body.isSome) = false
theorem asLit_H {x : AV D.E} {x' : Value} {b : Bool} (h : (asLit D x).H b) (hx : VR M x x') : x' = .bool b := by
  cases hx <;> simp only [asLit] at h <;> (try exact h.elim)
  case bool c => rcases split_H.1 h with ⟨rfl, h1⟩ | ⟨rfl, h1⟩ <;> cases ret_H.1 h1 <;> rfl
  case lit c => cases ret_H.1 h; rfl
theorem opF_ok (hD : DataOk D) {mu : Bool} {ex : CaF D.E} {o : Oper} {v : AV D.E} (hng : NoNG P) (hex : CaOk P D ex) (h : (opF P D cd mu o.op ex s φ).H (v, s')) (hS : Sim M s.h.get w) (hf : FR M φ a N) (hfr : Fresh M s.nx s'.nx) : OpOk P o a s M w v s' := by
  cases ho : o.op <;> rw [ho] at h <;> simp only [opF] at h <;> (try exact h.elim)
  case move x =>
    obtain ⟨h1, rfl⟩ := pureS_H h
    exact OpOk.pure hS (by unfold execOp; rw [ho]; rfl) (ev_VR h1 hf)
  case assign x =>
    obtain ⟨h1, rfl⟩ := pureS_H h
    exact OpOk.pure hS (by unfold execOp; rw [ho]; rfl) (ev_VR h1 hf)
  case pick c x y =>
    obtain ⟨vc, hc, h1⟩ := bnd_H.1 h
    obtain ⟨vx, hx, h2⟩ := bnd_H.1 h1
    obtain ⟨vy, hy, h3⟩ := bnd_H.1 h2
    obtain ⟨h4, rfl⟩ := pureS_H h3
    obtain ⟨t, ht, h5⟩ := bnd_H.1 h4
    have et := asLit_H ht (ev_VR hc hf)
    rcases bE_H.1 h5 with ⟨rfl, h6⟩ | ⟨rfl, h6⟩
    · cases ret_H.1 h6
      exact OpOk.pure hS (by unfold execOp; rw [ho]; simp only [Sem.run_bind, et, Go.asBool, Sem.run_pure, Result.andThen_ok, if_true]) (ev_VR hx hf)
    · cases ret_H.1 h6
      exact OpOk.pure hS (by unfold execOp; rw [ho]; simp only [Sem.run_bind, et, Go.asBool, Sem.run_pure, Result.andThen_ok, Bool.false_eq_true, if_false]) (ev_VR hy hf)
  case alloc e =>
    obtain ⟨z, hz, h1⟩ := bnd_H.1 h
    obtain ⟨it, z', hit, hzz, hzv⟩ := zeroOf_H hz
    refine OpOk.res (opNew_run (P := P) (C := z'.cells) h1 hS hfr (cellsV_LR (hzv M))) fun v' w' e1 => ?_
    unfold execOp; rw [ho]
    refine run_v ?_
    unfold Instr.alloc newVar
    simp only [Sem.run_bind, run_zero hit hzz, Result.andThen_ok]
    exact e1
  case box e x =>
    obtain ⟨u, hu, h1⟩ := bnd_H.1 h
    refine OpOk.res (opNew_run (P := P) (C := (a.eval x).cells) h1 hS hfr (cellsV_LR (ev_VR hu hf))) fun v' w' e1 => ?_
    unfold execOp; rw [ho]
    exact run_v e1
  case build t parts =>
    obtain ⟨h1, rfl⟩ := pureS_H h
    obtain ⟨v', h2, h3⟩ := opBuild_run h1 hf
    exact OpOk.pure hS (by unfold execOp; rw [ho]; exact run_v (h2 w)) h3
  case buildSlice t len parts =>
    exact OpOk.res (opBuildSl_run hD h hf hS hfr) fun v' w' e1 => by unfold execOp; rw [ho]; exact run_v e1
  case load t x =>
    obtain ⟨u, hu, h1⟩ := bnd_H.1 h
    obtain ⟨h3, rfl⟩ := pureS_H h1
    obtain ⟨v', ad, e1, h4, _, h5⟩ := loadA_run (P := P) hD h3 (ev_VR hu hf) hS
    exact OpOk.pure hS (by unfold execOp; rw [ho]; exact run_v h4) h5
  case store t x y =>
    obtain ⟨vx, hx, h1⟩ := bnd_H.1 h
    obtain ⟨vy, hy, h2⟩ := bnd_H.1 h1
    obtain ⟨h3, rfl⟩ := undS_H h2
    exact OpOk.skip (opStore_run hD h3 (ev_VR hx hf) (ev_VR hy hf) hS) fun w' e1 => by unfold execOp; rw [ho]; exact run_u e1
  case nilCheck x =>
    obtain ⟨u, hu, h1⟩ := bnd_H.1 h
    obtain ⟨h2, rfl⟩ := pureS_H h1
    obtain ⟨h3, rfl⟩ := opNil_run (P := P) h2 (ev_VR hu hf) w
    exact OpOk.pure hS (by unfold execOp; rw [ho]; exact h3) (ev_VR hu hf)
  case binOp op t x y yt =>
    obtain ⟨vx, hx, h1⟩ := bnd_H.1 h
    obtain ⟨vy, hy, h2⟩ := bnd_H.1 h1
    obtain ⟨h3, rfl⟩ := pureS_H h2
    obtain ⟨v', h4, h5⟩ := binN_run h3 (ev_VR hx hf) (ev_VR hy hf) w
    exact OpOk.pure hS (by unfold execOp; rw [ho]; exact run_v h4) h5
  case unOp op t x =>
    obtain ⟨vx, hx, h1⟩ := bnd_H.1 h
    obtain ⟨h3, rfl⟩ := pureS_H h1
    obtain ⟨v', h4, h5⟩ := unA_run (P := P) h3 (ev_VR hx hf)
    exact OpOk.pure hS (by unfold execOp; rw [ho]; exact run_v (h4 w)) h5
  case convert src dst x =>
    obtain ⟨vx, hx, h1⟩ := bnd_H.1 h
    exact OpOk.res (opConv_run hD h1 (ev_VR hx hf) hS hfr) fun v' w' e1 => by unfold execOp; rw [ho]; exact run_v e1
  case makeInterface t x =>
    obtain ⟨vx, hx, h1⟩ := bnd_H.1 h
    obtain ⟨h3, rfl⟩ := pureS_H h1
    obtain ⟨v', h4, h5⟩ := opIface_run h3 (ev_VR hx hf)
    exact OpOk.pure hS (by unfold execOp; rw [ho]; exact run_v (h4 w)) h5
  case makeFunc fn first captured =>
    obtain ⟨vf, h1, h2⟩ := bnd_H.1 h
    obtain ⟨vc, h3, h4⟩ := bnd_H.1 h2
    cases ret_H.1 h4
    have l1 := evs_arr h1 hf
    have l2 := evs_arr h3 hf
    exact OpOk.pure hS (by unfold execOp; rw [ho]; exact run_v rfl) (.func fn l1.1 l1.2 l2.1 l2.2)
  case makeSlice t l c =>
    obtain ⟨vl, hl, h1⟩ := bnd_H.1 h
    obtain ⟨vc, hc, h2⟩ := bnd_H.1 h1
    exact OpOk.res (opMakeSl_run hD h2 (ev_VR hl hf) (ev_VR hc hf) hS hfr) fun v' w' e1 => by unfold execOp; rw [ho]; exact run_v e1
  case slice t x lo hi mx =>
    obtain ⟨vx, hx, h1⟩ := bnd_H.1 h
    obtain ⟨vl, hl, h2⟩ := bnd_H.1 h1
    obtain ⟨vh, hh, h3⟩ := bnd_H.1 h2
    obtain ⟨vm, hm, h4⟩ := bnd_H.1 h3
    obtain ⟨h5, rfl⟩ := pureS_H h4
    obtain ⟨v', h6, h7⟩ := sliceA_run hD h5 (ev_VR hx hf) (.map hl hf) (.map hh hf) (.map hm hf)
    exact OpOk.pure hS (by unfold execOp; rw [ho]; exact run_v (h6 w)) h7
  case fieldAddr t x f =>
    obtain ⟨vx, hx, h1⟩ := bnd_H.1 h
    obtain ⟨h3, rfl⟩ := pureS_H h1
    obtain ⟨v', h4, h5⟩ := opFieldAddr_run h3 (ev_VR hx hf)
    exact OpOk.pure hS (by unfold execOp; rw [ho]; exact run_v (h4 w)) h5
  case field t x f =>
    obtain ⟨vx, hx, h1⟩ := bnd_H.1 h
    obtain ⟨h3, rfl⟩ := pureS_H h1
    obtain ⟨v', h4, h5⟩ := opField_run h3 (ev_VR hx hf)
    exact OpOk.pure hS (by unfold execOp; rw [ho]; exact run_v (h4 w)) h5
  case indexAddr t x i =>
    obtain ⟨vx, hx, h1⟩ := bnd_H.1 h
    obtain ⟨vi, hi, h2⟩ := bnd_H.1 h1
    obtain ⟨h3, rfl⟩ := pureS_H h2
    obtain ⟨v', h4, h5⟩ := opIdxAddr_run h3 (ev_VR hx hf) (ev_VR hi hf)
    exact OpOk.pure hS (by unfold execOp; rw [ho]; exact run_v (h4 w)) h5
  case index t x i =>
    obtain ⟨vx, hx, h1⟩ := bnd_H.1 h
    obtain ⟨vi, hi, h2⟩ := bnd_H.1 h1
    obtain ⟨h3, rfl⟩ := pureS_H h2
    obtain ⟨v', h4, h5⟩ := opIndex_run h3 (ev_VR hx hf) (ev_VR hi hf)
    exact OpOk.pure hS (by unfold execOp; rw [ho]; exact run_v (h4 w)) h5
  case extract x i =>
    obtain ⟨vx, hx, h1⟩ := bnd_H.1 h
    obtain ⟨h3, rfl⟩ := pureS_H h1
    obtain ⟨v', h4, h5⟩ := opExtract_run (P := P) h3 (ev_VR hx hf)
    exact OpOk.pure hS (by unfold execOp; rw [ho]; exact run_v (h4 w)) h5
  case call c =>
    cases hc : c.callee with
    | builtin b =>
      rw [hc] at h
      obtain ⟨vs, hvs, h1⟩ := bnd_H.1 (show (bnd (evs P D φ c.args.toList) fun vs => opBuiltin P D cd mu b s c.argTypes.toList vs).H (v, s') from h)
      exact opBuiltin_ok hD ho hc hvs h1 hS hf hfr
    | invoke r m => rw [hc] at h; exact (h : False).elim
    | value x =>
      rw [hc] at h
      obtain ⟨f, args, h1, h2⟩ := bnd2_H.1 (show (bnd2 (callA P D φ x c) fun f args => ex f args s).H (v, s') from h)
      obtain ⟨u, hu, h3⟩ := bnd_H.1 h1
      obtain ⟨f', p, hfn, h4⟩ := bnd2_H.1 h3
      obtain ⟨as, has, h5⟩ := bnd_H.1 h4
      obtain ⟨fs, cs⟩ := p
      have h5 := ret_H.1 h5
      simp only [Prod.mk.injEq] at h5
      obtain ⟨rfl, rfl⟩ := h5
      rw [sApp_eq, sApp_eq] at h2
      have hv := ev_VR hu hf
      have hfun : ∃ (F C : Array Value), a.eval x = .func (.func f') F C ∧ LR M fs F.toList ∧ LR M cs C.toList := by
        generalize a.eval x = xv at hv
        cases hv <;> simp only [asFn] at hfn <;> (try exact hfn.elim)
        rename_i fn _ _ _ _ g1 g2 g3 g4
        cases fn <;> simp only at hfn <;> (try exact hfn.elim)
        have hfn := ret_H.1 hfn
        simp only [Prod.mk.injEq] at hfn
        obtain ⟨rfl, rfl, rfl⟩ := hfn
        exact ⟨_, _, rfl, ⟨g1, g2⟩, ⟨g3, g4⟩⟩
      obtain ⟨F, C, e1, l1, l2⟩ := hfun
      have hl : LR M (fs ++ (as ++ cs)) (F ++ c.args.map a.eval ++ C).toList := by
        rw [Array.toList_append, Array.toList_append, List.append_assoc]
        exact l1.app ((evs_arr has hf).app l2)
      obtain ⟨_, ⟨fn, body, g1, g2⟩, hcall⟩ := hex f' _ s v s' h2
      have hcall := hcall M _ w hl hS hfr
      have hn : (fn.name == "runtime.NumGoroutine") = false := by
        have := hng f' fn g1
        rw [g2] at this
        simpa using this
      have hrun : (execOp a.eval o).run P w = .ok (.enter f' (F ++ c.args.map a.eval ++ C)) w := by
        unfold execOp
        rw [ho]
        simp only [resolve, hc, e1, Deferred.ofValue, Sem.run_bind, Sem.run_pure, Result.andThen_ok, invoke, callFunc, program, Sem.run, g1, hn, Bool.false_eq_true, if_false, g2, Option.isNone_some]
      exact .inr ⟨f', _, hrun, hcall⟩
end
end Go.Proofs.YtjdehneddakpnaaGreatDoor.sx
