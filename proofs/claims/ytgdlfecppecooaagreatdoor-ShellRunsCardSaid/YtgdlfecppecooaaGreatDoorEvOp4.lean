/- An evaluator of closed calls: append, copy, clear. -/
import Derived.Test.YtgdlfecppecooaaGreatDoorEvOp3
import Derived.Lib.ConvBytes
set_option linter.all false
namespace Go.Proofs.YtgdlfecppecooaaGreatDoor.ev
open Go Go.RowKit
section
variable {P : Program} {M M' : Pm} {φ : T Value} {a : Act} {N : Nat} {w : World} {s s' : St}
/-- What is read of a slice. -/
theorem srcSl_run {x : SlV} {x' : Value} {k : Nat} {l : List Value} {size n : Nat} (h : srcSl s k x = some l) (hx : SlR M x x') (hS : Sim P M s.h.get w) (hk : k = n * size) (hn : ∀ c, x' = .slice none 0 c → n = 0) (hn2 : (∃ a c, x' = .slice (some a) 0 c ∧ x = .mk none 0 OPEN) → n = 0) :
    ∃ l', LR M l l' ∧ l.length = k ∧ ∀ w2 : World, w2.heap = w.heap → (Builtin.firstCells size n x').run P w2 = .ok l'.toArray w2 := by
  subst hk
  cases hx with
  | nil =>
    obtain ⟨h1, h2⟩ := bB_some.1 (show bB (Nat.beq (n * size) 0) (some []) = some l from h)
    cases h2
    exact ⟨[], .nil, (beq_nat.1 h1).symm, fun w2 _ => by simp [Builtin.firstCells]⟩
  | emp ad c =>
    obtain ⟨h1, h2⟩ := bB_some.1 (show bB (Nat.beq (n * size) 0) (some []) = some l from h)
    cases h2
    have h0 : n * size = 0 := beq_nat.1 h1
    refine ⟨[], .nil, h0.symm, fun w2 _ => ?_⟩
    simp [Builtin.firstCells, h0, loadCells, loadCellsFrom]
  | at_ hm hc =>
    obtain ⟨l', h1, h2, h3⟩ := loadN_run (show loadN s _ _ (n * size) = some l from h) hm hS
    exact ⟨l', h1, h2, fun w2 hw => (h3 w2 hw).1⟩
  | open_ hm _ _ _ =>
    obtain ⟨l', h1, h2, h3⟩ := loadN_run (show loadN s _ _ (n * size) = some l from h) hm hS
    exact ⟨l', h1, h2, fun w2 hw => (h3 w2 hw).1⟩
theorem srcA_cases {size n : Nat} (x : Value) : (∃ b, x = .string b) ∨ (srcA s size n x = bnd (asSl x) (fun y => srcSl s (Nat.mul n size) y) ∧ lenOfA x = bnd (asSl x) fun y => some (slLen y)) := by
  cases x <;> first | exact .inl ⟨_, rfl⟩ | exact .inr ⟨rfl, rfl⟩
theorem srcA_run {x x' : Value} {size n : Nat} {l : List Value} (h : srcA s size n x = some l) (hn : lenOfA x = some n) (hx : VR M x x') (hS : Sim P M s.h.get w) :
    ∃ l', LR M l l' ∧ l.length = n * size ∧ (∀ w2 : World, (Builtin.lenOf x').run P w2 = .ok n w2) ∧ ∀ w2 : World, w2.heap = w.heap → (Builtin.firstCells size n x').run P w2 = .ok l'.toArray w2 := by
  have hsl : ∀ (y : SlV), asSl x = some y → slLen y = n → srcSl s (n * size) y = some l → ∃ l', LR M l l' ∧ l.length = n * size ∧ (∀ w2 : World, (Builtin.lenOf x').run P w2 = .ok n w2) ∧ ∀ w2 : World, w2.heap = w.heap → (Builtin.firstCells size n x').run P w2 = .ok l'.toArray w2 := by
    intro y hy hlen hsrc
    have hr := (asSl_VR hy hx).1
    obtain ⟨a0, c0, e0⟩ := hr.len
    obtain ⟨l', h1, h2, h3⟩ := srcSl_run (n := n) (size := size) hsrc hr hS rfl (fun c e => by
      rw [e0] at e; simp only [Value.slice.injEq] at e; rw [← hlen]; exact e.2.1) (fun ⟨a1, c1, e, _⟩ => by
      rw [e0] at e; simp only [Value.slice.injEq] at e; rw [← hlen]; exact e.2.1)
    refine ⟨l', h1, h2, fun w2 => ?_, h3⟩
    rw [e0, hlen]
    simp [Builtin.lenOf]
  rcases srcA_cases (s := s) (size := size) (n := n) x with ⟨b, rfl⟩ | ⟨e1, e2⟩
  · cases hx
    obtain ⟨h1, h2⟩ := bB_some.1 (show bB (Nat.beq size 1) _ = some l from h)
    have h1' : size = 1 := beq_nat.1 h1
    subst h1'
    obtain ⟨r, hr, h3⟩ := bnd_some.1 h2
    have hn' : b.data.toList.length = n := by
      have : some (lLen b.data.toList) = some n := hn
      rw [lLen_eq] at this; simpa using this
    obtain ⟨_, rfl⟩ := sTake_some hr
    rw [← hn', List.take_of_length_le (Nat.le_refl _)] at h3
    have h4 := bytesV_some h3
    have hsz : b.size = n := by rw [← hn', Array.length_toList]; rfl
    refine ⟨l, ⟨rfl, fun i v v' e e' => ?_⟩, by rw [h4, List.length_map, hn', Nat.mul_one], fun w2 => by simp [Builtin.lenOf, hsz], fun w2 _ => ?_⟩
    · rw [e] at e'; cases e'
      rw [h4, List.getElem?_map] at e
      cases hb : b.data.toList[i]? with
      | none => rw [hb] at e; cases e
      | some c => rw [hb] at e; cases e; exact .int _ _
    · have := firstCells_string (P := P) b w2
      rw [hsz] at this
      rw [this, h4]
      rfl
  · rw [e1] at h
    rw [e2] at hn
    obtain ⟨y, hy, h1⟩ := bnd_some.1 h
    obtain ⟨y2, hy2, h2⟩ := bnd_some.1 hn
    rw [hy] at hy2; cases hy2
    exact hsl y hy (by simpa using h2) h1
theorem zeroCells_size (z : Array Value) (n : Nat) : (Builtin.zeroCells z n).size = n * z.size := by simp [Builtin.zeroCells]
theorem grown_lt (w : World) (need old : Nat) (e : TypeId) (h : need ≤ 1099511627776) : grownCap w need old e < OPEN := by
  have := grownCap_le_maxLen w need old e (by unfold maxLen; omega)
  unfold maxLen at this
  rw [OPEN_eq]; omega
theorem Stp.below_drew {H : Hp} (hS : Sim P M H w) : Sim P M H w.drew := (Stp.drewStp hS 0).sim
/-- into new memory -/
theorem appNew_run {e t u ty : TypeId} {len n size c : Nat} {i : TypeInfo} {z : Value} {old new old' new' : List Value} {v x' : Value} {base : Option Addr} (hTB : e ≠ TB) (h : appNew s e len n size old new = some (v, s')) (ht : P.underlying t = some (.slice e)) (hi : P.info? e = some i)
    (hiz : i.size = size) (hz : i.zero = some z) (hzc : z.cells.size = size) (hS : Sim P M s.h.get w) (hf : Fresh M s.nx s'.nx) (hold : LR M old old') (hnew : LR M new new') (ho : old.length = len * size)
    (hsrc : Src P i.size u x' n new' w) (hrun : (Builtin.firstCells i.size len (.slice base len c)).run P w.drew = .ok old'.toArray w.drew) (hlt : c < len + n) (hb1 : (len + n) * i.bytes ≤ 1099511627776) (hb2 : len + n ≤ 1099511627776) :
    Res P s M w ((Builtin.append_ #[t, u] ty #[.slice base len c, x']).run P w) v s' := by
  obtain ⟨cs, hcs, h1⟩ := bnd_some.1 h
  rw [sApp_eq] at hcs
  cases hcs
  obtain ⟨b, s2, h2, h3⟩ := bnd2_some.1 h1
  cases h3
  obtain ⟨rfl, h4, h5⟩ := new_some h2
  have hgrow := run_append_grow_src (P := P) (ty := ty) w t u e i z ht hi hz base len c old' hrun x' n new' hsrc hlt (by omega) (growslice_fits hlt (by omega))
  have hf' : M s.nx = none := hf _ (Nat.le_refl _) (by omega)
  have hsz : szOf P e = some size := by unfold szOf; rw [hi, ← hiz]
  have hge := grownCap_ge w (len + n) c e
  have hcl := grown_lt w (len + n) c e hb2
  generalize grownCap w (len + n) c e = cp at hgrow hge hcl
  have hnl : new'.length = n * size := by rw [hsrc.newsLen, hiz]
  have hol : old'.length = len * size := by rw [← hold.1, ho]
  have hCs : ((old' ++ new').toArray ++ Builtin.zeroCells z.cells (cp - (len + n))).size = cp * size := by
    rw [Array.size_append, zeroCells_size, hzc, List.size_toArray, List.length_append, hnl, hol, ← Nat.add_mul, ← Nat.add_mul]
    congr 1; omega
  have hlr := hold.app hnew
  obtain ⟨M', mi, e1, e2, e3, e4, e5, e6, e7⟩ := alloc_stp (w := w.drew) (lo := s.nx) (cs := old ++ new) (C := (old' ++ new').toArray ++ Builtin.zeroCells z.cells (cp - (len + n))) (Stp.below_drew hS) hf' e (by
      rw [Array.size_append, List.size_toArray, hlr.1]; omega) (fun ht => absurd ht hTB) (fun j v' hj => by
    obtain ⟨v2, g1, g2⟩ := hlr.get hj
    refine ⟨v2, ?_, g2⟩
    rw [Array.getElem?_append_left (by rw [List.size_toArray]; exact (List.getElem?_eq_some_iff.1 g1).1), List.getElem?_toArray]
    exact g1)
  have hes := e5 size hsz
  refine ⟨M', _, _, hgrow, ?_, ?_⟩
  · have := VR.slo (M := M') (b := s.nx) (o := 0) (l := len + n) (c := cp) e1 hge hcl (by rw [e3, e4, hCs, hes]; omega)
    rw [e2, e3, hes] at this
    exact this
  · rw [h4, h5]
    exact (Stp.drewStp hS s.nx).trans e7
theorem room_none {t u ty e : TypeId} {cap n : Nat} {i : TypeInfo} {x' : Value} {new' : List Value} (ht : P.underlying t = some (.slice e)) (hi : P.info? e = some i) (hsrc : Src P i.size u x' n new' w) (h : n ≤ cap) :
    (Builtin.append_ #[t, u] ty #[.slice none 0 cap, x']).run P w = .ok (.slice none n cap) w := by
  rcases hsrc.kind with ⟨e', hk⟩ | hk <;> simp [Builtin.append_, run_underlying ht, run_underlying hk, sizeOf, typeInfo, hi, hsrc.len, hsrc.cells, h]
theorem appendA_run {t u ty : TypeId} {d d' x x' v : Value} (h : appendA P s t u d x = some (v, s')) (hd : VR M d d') (hx : VR M x x') (hS : Sim P M s.h.get w) (hf : Fresh M s.nx s'.nx) :
    Res P s M w ((Builtin.append_ #[t, u] ty #[d', x']).run P w) v s' := by
  obtain ⟨dt, hdt, h1⟩ := bnd_some.1 h
  obtain ⟨e, he, h2⟩ := bnd_some.1 h1
  obtain ⟨hTB, h2⟩ := bB_some.1 h2
  have hTB : e ≠ TB := fun h => by rw [h, Nat.beq_refl] at hTB; cases hTB
  obtain ⟨du, hdu, h3⟩ := bnd_some.1 h2
  obtain ⟨hkind, h4⟩ := bB_some.1 h3
  obtain ⟨size, hsz, h5⟩ := bnd_some.1 h4
  obtain ⟨bytes, hby, h6⟩ := bnd_some.1 h5
  obtain ⟨z, hz, h7⟩ := bnd_some.1 h6
  obtain ⟨hzl, h8⟩ := bB_some.1 h7
  obtain ⟨hs1, h9⟩ := bB_some.1 h8
  obtain ⟨hb1, h10⟩ := bB_some.1 h9
  obtain ⟨n, hn, h11⟩ := bnd_some.1 h10
  obtain ⟨new, hnew, h12⟩ := bnd_some.1 h11
  obtain ⟨hone, h13⟩ := bB_some.1 h12
  obtain ⟨y, hy, h14⟩ := bnd_some.1 h13
  obtain ⟨i, hi, hiz⟩ := szOf_some hsz
  obtain ⟨i2, hi2, hib⟩ := byOf_some hby
  rw [hi] at hi2; cases hi2
  obtain ⟨i3, hi3, hizr, hcl⟩ := zeroOf_some hz
  rw [hi] at hi3; cases hi3
  have hs1' : 1 ≤ size := ble_nat.1 hs1
  have hdt' : P.underlying t = some (.slice e) := by cases dt <;> first | (cases he; exact hdt) | cases he
  have hk : (∃ e', P.underlying u = some (.slice e')) ∨ P.underlying u = some .string := by
    cases du <;> first | exact .inl ⟨_, hdu⟩ | exact .inr hdu | cases hkind
  have hzc : z.cells.size = size := by
    have := (cells_zero (M := M) hcl).1
    rw [← Array.length_toList, ← this, ← lLen_eq]
    exact beq_nat.1 hzl
  obtain ⟨new', hnl, hnlen, hlen, hfirst⟩ := srcA_run hnew hn hx hS
  have hsrc : Src P i.size u x' n new' w := ⟨hk, hlen, by rw [hiz]; exact hfirst w rfl, by rw [hiz]; exact hfirst w.drew rfl, by rw [← hnl.1, hnlen, hiz], one_LR hnl hone⟩
  have hsl := (asSl_VR hy hd).1
  obtain ⟨aa, len, cap⟩ := y
  obtain ⟨q1, h15⟩ := bB_some.1 (show bB (Nat.ble ((len + n) * bytes) 1099511627776) _ = some (v, s') from h14)
  obtain ⟨q2, h16⟩ := bB_some.1 h15
  have q1' : (len + n) * i.bytes ≤ 1099511627776 := by rw [hib]; exact ble_nat.1 q1
  have q2' : len + n ≤ 1099511627776 := ble_nat.1 q2
  rcases bE_some.1 h16 with ⟨ho, h17⟩ | ⟨ho, h17⟩
  · -- open
    have hcap : OPEN ≤ cap := ble_nat.1 ho
    obtain ⟨b, o, hab, h18⟩ := bnd2_some.1 h17
    obtain ⟨cs, e', hwr, h19⟩ := bnd2_some.1 h18
    obtain ⟨hce, h20⟩ := bB_some.1 h19
    cases hab
    have hwr' := wrAt_some hwr
    cases hsl with
    | at_ _ hc => omega
    | @open_ _ _ _ c mi hm hlc hc htot =>
      have hes : mi.esz = size := by have := beq_nat.1 hce; have : OPEN + mi.esz = OPEN + size := this; omega
      obtain ⟨mi', hm', C, fz, hC, hCs, hshl, hcells, hesz, hfz⟩ := hS.obj b _ hwr'
      rw [hm] at hm'; cases hm'
      have hfz' := hfz.1 rfl
      rcases bE_some.1 h20 with ⟨hroom, h21⟩ | ⟨hroom, h21⟩
      · -- room in what is known
        obtain ⟨s2, hst, h22⟩ := bnd_some.1 h21
        cases h22
        have hrm : o + (len + n) * size ≤ cs.length := by rw [← lLen_eq]; exact ble_nat.1 hroom
        have hfit : len + n ≤ c := by
          have h30 : (len + n) * size ≤ c * size := by rw [hes] at htot; omega
          exact Nat.le_of_mul_le_mul_right h30 hs1'
        obtain ⟨_, c1, c2, c3⟩ := storeN_run hst hm hS hnl hone
        have hadd : mi.sh + (o + len * size) = mi.sh + o + len * i.size := by rw [hiz]; omega
        have hrun := run_append_room_src (P := P) (ty := ty) w t u e i hdt' hi mi.blk (mi.sh + o) len c x' n new' hsrc hfit (fun j hj => by rw [← hadd]; exact c1 j hj) (fun j hj => by rw [← hadd]; exact c2 j hj)
        rw [← hadd] at hrun
        exact ⟨M, _, _, hrun, .slo hm hfit hc htot, c3⟩
      · have hrm : cs.length < o + (len + n) * size := by rw [← lLen_eq]; exact ble_natF.1 hroom
        obtain ⟨hee, h21⟩ := bB_some.1 h21
        obtain rfl : e' = e := beq_nat.1 hee
        obtain ⟨old, hold, h22⟩ := bnd_some.1 h21
        obtain ⟨s2, hset, h23⟩ := bnd_some.1 h22
        obtain ⟨g1, g2⟩ := set_some hset
        have hln : loadN s b o (len * size) = some old := bnd_some.2 ⟨cs, by unfold cellsAt; rw [hwr']; rfl, hold⟩
        obtain ⟨old', hol, hollen, holrun⟩ := loadN_run hln hm hS
        have hf2 : Fresh M s2.nx s'.nx := by rw [g2]; exact hf
        by_cases hfit : len + n ≤ c
        · -- there, behind what is known
          obtain ⟨cs2, hcs2, h24⟩ := bnd_some.1 h23
          rw [sApp_eq] at hcs2
          cases hcs2
          obtain ⟨nb, s3, hnb, h25⟩ := bnd2_some.1 h24
          cases h25
          obtain ⟨rfl, g3, g4⟩ := new_some hnb
          have hfn : M s.nx = none := hf _ (Nat.le_refl _) (by rw [g3, g2]; omega)
          have hnewl : new'.length = n * size := by rw [← hnl.1, hnlen]
          have hmul : (len + n) * size = len * size + n * size := Nat.add_mul _ _ _
          have htot2 : mi.sh + o + c * size = mi.tot := by rw [← hes]; exact htot
          have hcm : (len + n) * size ≤ c * size := Nat.mul_le_mul_right _ hfit
          have hin : ∀ j, j < new'.length → mi.sh + o + len * size + j < C.size := fun j hj => by rw [hCs]; omega
          have hrun := run_append_room_src (P := P) (ty := ty) w t u e' i hdt' hi mi.blk (mi.sh + o) len c x' n new' hsrc hfit (fun j hj => by
            rw [hiz]
            have := hin j hj
            simp [World.cell?, hC, this]) (fun j hj => by
            rw [hiz]
            have := hin j hj
            simp only [World.frozen?, hC]
            rcases hfz' with hz | hz
            · rw [hz]; simp; try omega
            · simp; try omega)
          rw [hiz] at hrun
          obtain ⟨C', q3, q4, q5⟩ := setCells_at mi.blk e' fz new' (mi.sh + o + len * size) w C hC (by rw [hCs]; omega)
          obtain ⟨r1, r2, r3⟩ := setCells_rest mi.blk new' (mi.sh + o + len * size) w
          have hol2 : old'.length = len * size := by rw [← hol.1, hollen]
          have hoc := (holrun w rfl).2
          let mi2 : MI := ⟨mi.blk, mi.sh + o, mi.tot, size⟩
          have hszz : ∀ k, szOf P e' = some k → size = k := fun k hk => by rw [← hes]; exact hesz k hk
          have hst := Stp.move (w' := w.setCells mi.blk (mi.sh + o + len * size) new') (o' := .cells (old ++ new) e' false) (lo := s.nx) (mi' := mi2) hS hwr' rfl hm hfn rfl (setCells_size _ _ _ _) (fun k hk => setCells_block _ _ _ _ k hk) r1 r2 r3
            (fun M2 hM2 => by
              refine ⟨C', fz, q3, by rw [q4, hCs], ?_, fun j v hj => ?_, hszz, fun _ => hfz', fun ht => absurd ht hTB⟩
              · show mi.sh + o + (old ++ new).length ≤ mi.tot
                rw [List.length_append, hollen, hnlen]; omega
              · obtain ⟨v2, g5, g6⟩ := (hol.app hnl).get hj
                refine ⟨v2, ?_, g6.mono hM2⟩
                show C'[mi.sh + o + j]? = some v2
                rw [q5]
                by_cases hjo : j < old'.length
                · rw [if_neg (by omega)]
                  rw [List.getElem?_append_left hjo] at g5
                  have := hoc j v2 g5
                  simpa [World.cell?, hC] using this
                · rw [List.getElem?_append_right (by omega)] at g5
                  have hjl := (List.getElem?_eq_some_iff.1 g5).1
                  rw [if_pos (by omega), show mi.sh + o + j - (mi.sh + o + len * size) = j - old'.length by omega]
                  exact g5)
          refine ⟨_, _, _, hrun, ?_, by rw [g4, g1, g3, g2]; exact hst⟩
          have := VR.slo (M := fun k => if k = s.nx then some mi2 else M k) (b := s.nx) (o := 0) (l := len + n) (c := c) (mi := mi2) (by simp) hfit hc (by show mi.sh + o + 0 + c * size = mi.tot; omega)
          rw [g2]
          exact this
        · -- new memory
          have hdrop := Stp.drop (b := b) hS s.nx
          have hS2 : Sim P M s2.h.get w := by rw [g1]; exact hdrop.sim
          obtain ⟨M', v', w', k1, k2, k3⟩ := appNew_run (w := w) (c := c) (ty := ty) (base := some ⟨mi.blk, mi.sh + o, none⟩) hTB h23 hdt' hi hiz hizr hzc hS2 hf2 hol hnl hollen hsrc (by rw [hiz]; exact (holrun w.drew rfl).1) (by omega) q1' q2'
          refine ⟨M', v', w', k1, k2, ?_⟩
          rw [g1, g2] at k3
          exact hdrop.trans k3
  · have hcap : cap < OPEN := ble_natF.1 ho
    rcases bE_some.1 h17 with ⟨hroom, h18⟩ | ⟨hroom, h18⟩
    · have hfit : len + n ≤ cap := ble_nat.1 hroom
      cases hsl with
      | nil =>
        obtain ⟨_, h19⟩ := bB_some.1 (show bB (Nat.beq n 0) _ = some (v, s') from h18)
        cases h19
        obtain rfl : n = 0 := by omega
        exact Res.pure hS (room_none hdt' hi hsrc (Nat.le_refl _)) .snil
      | emp _ _ => omega
      | @at_ b o _ _ mi hm hc =>
        obtain ⟨s2, hst, h22⟩ := bnd_some.1 (show bnd (storeN s b (o + len * size) new) _ = some (v, s') from h18)
        cases h22
        obtain ⟨_, c1, c2, c3⟩ := storeN_run hst hm hS hnl hone
        have hadd : mi.sh + (o + len * size) = mi.sh + o + len * i.size := by rw [hiz]; omega
        have hrun := run_append_room_src (P := P) (ty := ty) w t u e i hdt' hi mi.blk (mi.sh + o) len cap x' n new' hsrc hfit (fun j hj => by rw [← hadd]; exact c1 j hj) (fun j hj => by rw [← hadd]; exact c2 j hj)
        rw [← hadd] at hrun
        exact ⟨M, _, _, hrun, .sl hm hc, c3⟩
      | open_ _ _ _ _ => omega
    · have hlt : cap < len + n := ble_natF.1 hroom
      obtain ⟨old, hold, h19⟩ := bnd_some.1 h18
      obtain ⟨a0, c0, e0⟩ := hsl.len
      obtain ⟨old', hol, hollen, holrun⟩ := srcSl_run (n := len) (size := size) hold hsl hS rfl (fun c e => by
        rw [e0] at e; simp only [Value.slice.injEq] at e; exact e.2.1) (fun ⟨a1, c1, e, _⟩ => by
        rw [e0] at e; simp only [Value.slice.injEq] at e; exact e.2.1)
      have hc0 : c0 = cap := by
        cases hsl with
        | nil => simp only [Value.slice.injEq] at e0; exact e0.2.2.symm
        | emp _ _ => omega
        | at_ _ _ => simp only [Value.slice.injEq] at e0; exact e0.2.2.symm
        | open_ _ _ _ _ => omega
      have e1 : slLen (.mk aa len cap) = len := rfl
      rw [e1] at e0
      rw [e0]
      rw [e0] at holrun
      subst hc0
      exact appNew_run hTB h19 hdt' hi hiz hizr hzc hS hf hol hnl hollen hsrc (by rw [hiz]; exact holrun w.drew rfl) hlt q1' q2'
end
end Go.Proofs.YtgdlfecppecooaaGreatDoor.ev
