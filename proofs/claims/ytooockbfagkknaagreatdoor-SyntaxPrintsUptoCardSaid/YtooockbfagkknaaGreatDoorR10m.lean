/- spoorref10's parser: its memory; fail, here, is, punct, one, single. -/
import Derived.Test.YtooockbfagkknaaGreatDoorR77
import Derived.Test.YtooockbfagkknaaGreatDoorPln
import Derived.Test.YtooockbfagkknaaGreatDoorRfm
import Derived.Test.YtooockbfagkknaaGreatDoorPar13
namespace Go.Proofs.YtooockbfagkknaaGreatDoor.syn
open Go.RowKit Go.Proofs.YtooockbfagkknaaGreatDoor.sl Go.Proofs.YtooockbfagkknaaGreatDoor.cls
section
variable {G : List Gt}
/-- A rune as the reference keeps it: -1 for a wrong byte. -/
def rnR (G : List Gt) (k : Nat) : Int := if badB G k then -1 else runeAt G k
def runesR (G : List Gt) : List Int := (List.range G.length).map (rnR G)
theorem runesR_len : (runesR G).length = G.length := by simp [runesR]
theorem runesR_at {i : Nat} (h : i < G.length) : (runesR G)[i]? = some (rnR G i) := by simp [runesR, h]
def placesR (G : List Gt) : List Int := (List.range (G.length + 1)).map (syn.place G)
theorem placesR_len : (placesR G).length = G.length + 1 := by simp [placesR]
theorem placesR_at {i : Nat} (h : i ≤ G.length) : (placesR G)[i]? = some (syn.place G i) := by
  unfold placesR
  rw [List.getElem?_map, List.getElem?_range (by omega)]
  rfl
theorem isR_rn {s : Ps} (h : s.i < G.length) {r : Int} (h0 : 0 ≤ r) (h1 : r ≠ 65533) : isR G s r = (rnR G s.i == r) := by
  rw [isR_at h]
  unfold rnR
  cases hb : badB G s.i
  · rfl
  · rw [if_pos rfl]
    have e : runeAt G s.i = 65533 := by
      rw [bad_at h] at hb
      simp only [Bool.and_eq_true, beq_iff_eq] at hb
      exact hb.1
    rw [e]
    have e1 : ((65533 : Int) == r) = false := by rw [beq_eq_false_iff_ne]; exact fun e => h1 e.symm
    have e2 : ((-1 : Int) == r) = false := by rw [beq_eq_false_iff_ne]; omega
    rw [e1, e2]
end
structure Qz (c : Cx) (w : World) (s : Ps) : Prop where
  obj : w.heap[c.P]? = some (.cells #[.slice c.ga c.G.length c.gc, .slice c.pa (c.G.length + 1) c.pc, .int .i64 s.i, .int .i64 s.groups, .int .i64 s.err, .int .i64 s.wh] 52)
  runes : Rd ei w c.ga (runesR c.G) c.gc
  places : Rd eI w c.pa (placesR c.G) c.pc
  ng : ∀ ad, c.ga = some ad → ad.block ≠ c.P
  np : ∀ ad, c.pa = some ad → ad.block ≠ c.P
  le : s.i ≤ 1000
  len : c.G.length ≤ 120
  gr : s.groups ≤ 4
  hH : c.H ≤ w.heap.size
  hP : c.P < c.H
  hg : ∀ ad, c.ga = some ad → ad.block < c.H
  hp : ∀ ad, c.pa = some ad → ad.block < c.H
variable {c : Cx} {w w' : World} {s t : Ps}
theorem Qz.lt (h : Qz c w s) : c.P < w.heap.size := heap_lt h.obj
theorem Qz.keep (h : Qz c w s) (hb : Below w.heap.size w w') : Qz c w' s :=
  ⟨(hb.block _ h.lt).trans h.obj, h.runes.kept hb, h.places.kept hb, h.ng, h.np, h.le, h.len, h.gr, Nat.le_trans h.hH hb.size, h.hP, h.hg, h.hp⟩
theorem Qz.keepB {B : Nat} (h : Qz c w s) (hb : Below B w w') (hB : c.H ≤ B) : Qz c w' s :=
  ⟨(hb.block _ (Nat.lt_of_lt_of_le h.hP hB)).trans h.obj, h.runes.below hb fun ad e _ => Nat.lt_of_lt_of_le (h.hg ad e) hB, h.places.below hb fun ad e _ => Nat.lt_of_lt_of_le (h.hp ad e) hB,
    h.ng, h.np, h.le, h.len, h.gr, Nat.le_trans h.hH hb.size, h.hP, h.hg, h.hp⟩
theorem Qz.drewN (h : Qz c w s) (n : Nat) : Qz c (w.drewN n) s := h.keep (drewN_below (Below.refl _ _) n)
theorem Qz.mod (h : Qz c w s) (k : Kp c.P w w') (ho : w'.heap[c.P]? = some (.cells #[.slice c.ga c.G.length c.gc, .slice c.pa (c.G.length + 1) c.pc, .int .i64 t.i, .int .i64 t.groups, .int .i64 t.err, .int .i64 t.wh] 52))
    (h1 : t.i ≤ 1000) (h2 : t.groups ≤ 4) : Qz c w' t :=
  ⟨ho, rd_kp h.runes k h.ng, rd_kp h.places k h.np, h.ng, h.np, h1, h.len, h2, Nat.le_trans h.hH k.size, h.hP, h.hg, h.hp⟩
theorem Qz.set_i (h : Qz c w s) {j : Nat} (hj : j ≤ 1000) : Qz c (w.setCell ⟨c.P, 2, none⟩ (.int .i64 j)) { s with i := j } :=
  h.mod (Kp.set _ _ _ _) (by rw [obj_set h.obj]; rfl) hj h.gr
theorem Qz.set_groups (h : Qz c w s) {j : Nat} (hj : j ≤ 4) : Qz c (w.setCell ⟨c.P, 3, none⟩ (.int .i64 j)) { s with groups := j } :=
  h.mod (Kp.set _ _ _ _) (by rw [obj_set h.obj]; rfl) h.le hj
theorem Qz.set_err (h : Qz c w s) (e : Int) : Qz c (w.setCell ⟨c.P, 4, none⟩ (.int .i64 e)) { s with err := e } :=
  h.mod (Kp.set _ _ _ _) (by rw [obj_set h.obj]; rfl) h.le h.gr
theorem Qz.set_wh (h : Qz c w s) (e : Int) : Qz c (w.setCell ⟨c.P, 5, none⟩ (.int .i64 e)) { s with wh := e } :=
  h.mod (Kp.set _ _ _ _) (by rw [obj_set h.obj]; rfl) h.le h.gr
theorem Qz.step (h : Qz c w s) (hi : s.i < 1000) : Qz c (w.setCell ⟨c.P, 2, none⟩ (.int .i64 ((s.i : Int) + 1))) s.next := by
  have := h.set_i (j := s.i + 1) hi
  rwa [Int.natCast_add] at this
/-- The reference keeps no number of open brackets. -/
theorem Qz.opens (h : Qz c w s) (n : Nat) : Qz c w { s with opens := n } := ⟨h.obj, h.runes, h.places, h.ng, h.np, h.le, h.len, h.gr, h.hH, h.hP, h.hg, h.hp⟩
theorem Qz.c0 (h : Qz c w s) : w.cell? ⟨c.P, 0, none⟩ = some (.slice c.ga c.G.length c.gc) := cell_of_obj h.obj rfl
theorem Qz.c1 (h : Qz c w s) : w.cell? ⟨c.P, 1, none⟩ = some (.slice c.pa (c.G.length + 1) c.pc) := cell_of_obj h.obj rfl
theorem Qz.c2 (h : Qz c w s) : w.cell? ⟨c.P, 2, none⟩ = some (.int .i64 s.i) := cell_of_obj h.obj rfl
theorem Qz.c3 (h : Qz c w s) : w.cell? ⟨c.P, 3, none⟩ = some (.int .i64 s.groups) := cell_of_obj h.obj rfl
theorem Qz.c4 (h : Qz c w s) : w.cell? ⟨c.P, 4, none⟩ = some (.int .i64 s.err) := cell_of_obj h.obj rfl
theorem Qz.c5 (h : Qz c w s) : w.cell? ⟨c.P, 5, none⟩ = some (.int .i64 s.wh) := cell_of_obj h.obj rfl
theorem Qz.fz (h : Qz c w s) (o : Nat) : w.frozen? ⟨c.P, o, none⟩ = false := frozen_of_obj h.obj
theorem Qz.rune (h : Qz c w s) {i : Nat} (hi : i < c.G.length) : ∃ b off, c.ga = some ⟨b, off, none⟩ ∧ b ≠ c.P ∧ b < w.heap.size ∧ w.cell? ⟨b, off + i, none⟩ = some (.int .i32 (rnR c.G i)) := by
  obtain ⟨b, off, e, hb, hc⟩ := h.runes.cells ei_len (runesR_at hi)
  have h0 := hc 0 (.int .i32 (rnR c.G i)) (by omega) rfl
  simp only [Nat.add_zero, Nat.mul_one] at h0
  exact ⟨b, off, e, h.ng _ e, hb, h0⟩
theorem Qz.place (h : Qz c w s) {i : Nat} (hi : i ≤ c.G.length) : ∃ b off, c.pa = some ⟨b, off, none⟩ ∧ b ≠ c.P ∧ b < w.heap.size ∧ w.cell? ⟨b, off + i, none⟩ = some (.int .i64 (syn.place c.G i)) := by
  obtain ⟨b, off, e, hb, hc⟩ := h.places.cells eI_len (placesR_at hi)
  have h0 := hc 0 (.int .i64 (syn.place c.G i)) (by omega) rfl
  simp only [Nat.add_zero, Nat.mul_one] at h0
  exact ⟨b, off, e, h.np _ e, hb, h0⟩
set_option maxHeartbeats 4000000 in
set_option maxRecDepth 100000 in
theorem failRC (h : Qz c w s) (k : Nat) (er : Int) : Calls Tryz.prog 20 #[.pointer (some ⟨c.P, 0, none⟩), .int .i64 er, .int .i64 (place c.G k)] w fun e w' => e = .returned (.tuple #[]) ∧ Qz c w' (s.wrong c.G k er) ∧ Kp c.P w w' := by
  have c4 := h.c4
  have f4 := h.fz 4
  have f5 := h.fz 5
  have c5 := h.c5
  have H := Lib.hid h
  clear h
  unfold Ps.wrong
  by_cases he : s.err = 0
  · rw [if_pos he]
    rw [he] at c4
    clear he
    generalize place c.G k = x
    go_enter Tryz.func20, Tryz.ntmps20
    go_wp2_with fail
    go_end0
    exact ⟨rfl, (H.out.set_err er).set_wh x, (Kp.set _ _ _ _).trans (Kp.set _ _ _ _)⟩
  · rw [if_neg he]
    have he' : (s.err == 0) = false := by simpa using he
    generalize s.err = x at c4 he he'
    go_enter Tryz.func20, Tryz.ntmps20
    go_wp2_with fail
    go_end0
    exact ⟨rfl, H.out, Kp.refl _ _⟩
set_option maxHeartbeats 4000000 in
set_option maxRecDepth 100000 in
theorem hereRC (h : Qz c w s) (hi : s.i ≤ c.G.length) : Calls Tryz.prog 21 #[.pointer (some ⟨c.P, 0, none⟩)] w fun e w' => e = .returned (.int .i64 (place c.G s.i)) ∧ ∃ n, w' = w.drewN n := by
  have c1 := h.c1
  have c2 := h.c2
  have hln := h.len
  obtain ⟨b, off, hpa, hbP, hbl, r0⟩ := h.place hi
  rw [hpa] at c1
  have i1 : (s.i : Int) < (c.G.length : Int) + 1 := by omega
  clear h hpa
  generalize place c.G s.i = x at r0
  go_enter Tryz.func21, Tryz.ntmps21
  go_wp2_with fail
  go_quiet (fail)
  go_wp2_with fail
  go_ret
  exact ⟨rfl, _, rfl⟩
set_option maxHeartbeats 4000000 in
set_option maxRecDepth 100000 in
theorem isRC (h : Qz c w s) (r : Int) (h0 : 0 ≤ r) (h1 : r ≠ 65533) : Calls Tryz.prog 35 #[.pointer (some ⟨c.P, 0, none⟩), .int .i32 r] w fun e w' => e = .returned (.bool (isR c.G s r)) ∧ ∃ n, w' = w.drewN n := by
  have c0 := h.c0
  have c2 := h.c2
  have hln := h.len
  have hle := h.le
  by_cases hi : s.i < c.G.length
  · obtain ⟨b, off, hga, hbP, hbl, r0⟩ := h.rune hi
    rw [isR_rn hi h0 h1]
    rw [hga] at c0
    have i1 : (s.i : Int) < (c.G.length : Int) := by omega
    clear h hga h0 h1
    generalize rnR c.G s.i = x at r0
    go_enter Tryz.func35, Tryz.ntmps35
    go_wp2_with fail
    go_quiet (fail)
    go_wp2_with fail
    go_ret
    exact ⟨rfl, _, rfl⟩
  · rw [isR_out hi]
    have i1 : ¬ (s.i : Int) < (c.G.length : Int) := by omega
    have i2 : decide (s.i < c.G.length) = false := by simpa using hi
    clear h
    go_enter Tryz.func35, Tryz.ntmps35
    go_wp2_with fail
    go_quiet (fail)
    go_wp2_with fail
    go_ret
    exact ⟨rfl, _, rfl⟩
set_option maxHeartbeats 4000000 in
theorem punctC (r : Int) (w : World) : Calls Tryz.prog 66 #[.int .i32 r] w fun e w' => e = .returned (.bool (markB r)) ∧ w' = w := by
  have key : ∀ b : Bool, markB r = b → Calls Tryz.prog 66 #[.int .i32 r] w fun e w' => e = .returned (.bool b) ∧ w' = w := by
    intro b hb
    have HB := Lib.hid hb
    clear hb
    go_enter Tryz.func66, Tryz.ntmps66
    go_wp2_with fail
    all_goals (go_ret; refine ⟨congrArg _ ?_, rfl⟩; rw [← HB.out]; show Value.bool _ = Value.bool _; congr 1)
    all_goals (rw [Bool.eq_iff_iff]; simp [markB]; try omega)
  exact key _ rfl
set_option maxHeartbeats 4000000 in
theorem oneRC {B : Nat} {v : Value} {l : List Rg} (h : OwnR B w v l) (hB : B ≤ w.heap.size) : Calls Tryz.prog 86 #[v] w fun e w' => ∃ v', e = .returned v' ∧ Nds B w' v' [ndC l] ∧ Below w.heap.size w w' := by
  obtain ⟨a, n, cp, rfl, nd⟩ := nds_class h hB
  have ND := Lib.hid nd
  have BB := Lib.hid ((Below.refl w.heap.size w).alloc (Nat.le_refl _) (.cells #[.int .i64 2, .slice a n cp, .int .i64 0, .int .i64 0, .bool false, .int .i64 0, .int .i64 0] 35))
  clear nd h hB
  go_enter Tryz.func86, Tryz.ntmps86
  go_wp2_with fail
  go_ret
  exact ⟨_, rfl, ND.out, BB.out⟩
set_option maxHeartbeats 4000000 in
theorem singleRC (a : Option Addr) (l : List Rg) (cap : Nat) (w : World) (h : Rd er w a l cap) : Calls Tryz.prog 44 #[.slice a l.length cap] w fun e w' => e = .returned (.bool (rSingle l)) ∧ ∃ n, w' = w.drewN n := by
  by_cases h1 : l.length = 1
  · obtain ⟨x, rfl⟩ := List.length_eq_one_iff.1 h1
    obtain ⟨b, off, rfl, hb, q0, q1⟩ := Rd.pair h (i := 0) (x := x) rfl
    simp only [Nat.zero_mul, Nat.add_zero] at q0 q1
    have e : rSingle [x] = (x.1 == x.2) := by
      unfold rSingle
      rw [Bool.eq_iff_iff]
      simp
    rw [e]
    clear h h1 e
    obtain ⟨x1, x2⟩ := x
    simp only at q0 q1
    go_enter Tryz.func44, Tryz.ntmps44
    go_wp2_with fail
    go_quiet (fail)
    go_wp2_with fail
    go_ret
    exact ⟨rfl, _, rfl⟩
  · have e : rSingle l = false := by unfold rSingle; rw [decide_eq_false h1]; rfl
    have n1 : ((l.length : Int) == 1) = false := by rw [beq_eq_false_iff_ne]; omega
    rw [e]
    clear h h1 e
    go_enter Tryz.func44, Tryz.ntmps44
    go_wp2_with fail
    go_quiet (fail)
    go_wp2_with fail
    go_ret
    exact ⟨rfl, _, rfl⟩
end Go.Proofs.YtooockbfagkknaaGreatDoor.syn
