/- The memory of the parser: its own block, runes, places, nodes. -/
import Derived.Test.YtooockbfagkknaaGreatDoorInv
import Derived.Test.YtooockbfagkknaaGreatDoorBase
namespace Go.Proofs.YtooockbfagkknaaGreatDoor.syn
open Go.RowKit Go.Proofs.YtooockbfagkknaaGreatDoor.sl Go.Proofs.YtooockbfagkknaaGreatDoor.cls
abbrev Kp (P : Nat) (w w' : World) : Prop := w.grownBy w' (some P)
theorem Kp.refl (P : Nat) (w : World) : Kp P w w := ⟨rfl, rfl, rfl, Nat.le_refl _, fun _ _ _ => rfl⟩
theorem Kp.trans {P : Nat} {a b c : World} (h : Kp P a b) (k : Kp P b c) : Kp P a c :=
  ⟨k.os.trans h.os, k.tape.trans h.tape, k.output.trans h.output, Nat.le_trans h.size k.size, fun i hi hn => (k.block i (Nat.lt_of_lt_of_le hi h.size) hn).trans (h.block i hi hn)⟩
theorem Kp.below {P : Nat} {a b : World} (h : Below a.heap.size a b) : Kp P a b := ⟨h.os, h.tape, h.output, h.size, fun i hi _ => h.block i hi⟩
theorem Kp.set (P o : Nat) (w : World) (u : Value) : Kp P w (w.setCell ⟨P, o, none⟩ u) := by
  refine ⟨rfl, rfl, rfl, by simp [World.setCell], fun k hk hn => Below.heap_setCell _ _ _ _ ?_⟩
  intro e
  exact hn (by rw [e])
/-- What is made in the call lies above P: for a caller that made P itself all is new. -/
theorem Kp.toBelow {P B : Nat} {a b : World} (h : Kp P a b) (hP : B ≤ P) (hB : B ≤ a.heap.size) : Below B a b :=
  ⟨h.os, h.tape, h.output, h.size, fun i hi => h.block i (by omega) (by intro e; cases e; omega)⟩
theorem rd_keep {α : Type} {enc : α → List Value} {w w' : World} {a : Option Addr} {l : List α} {cap : Nat} (h : Rd enc w a l cap) (hs : w.heap.size ≤ w'.heap.size) (hk : ∀ ad, a = some ad → 0 < cap → w'.heap[ad.block]? = w.heap[ad.block]?) : Rd enc w' a l cap :=
  ⟨h.none_, h.le, h.max, fun ad e hp => by
    obtain ⟨h1, h2, h3⟩ := h.at_ ad e hp
    exact ⟨h1, Nat.lt_of_lt_of_le h2 hs, fun j u hj => (World.cell?_of_block (a := ⟨ad.block, ad.off + j, none⟩) (hk ad e hp)).trans (h3 j u hj)⟩⟩
theorem rd_kp {α : Type} {enc : α → List Value} {w w' : World} {a : Option Addr} {l : List α} {cap P : Nat} (h : Rd enc w a l cap) (k : Kp P w w') (hn : ∀ ad, a = some ad → ad.block ≠ P) : Rd enc w' a l cap :=
  rd_keep h k.size fun ad e hp => k.block _ (h.at_ ad e hp).2.1 (by intro e'; cases e'; exact hn ad e rfl)
def eG (g : Gt) : List Value := [.int .i32 g.1, .int .i64 g.2]
theorem eG_len (g : Gt) : (eG g).length = 2 := rfl
def eI (n : Int) : List Value := [.int .i64 n]
theorem eI_len (n : Int) : (eI n).length = 1 := rfl
/-- What stays while a text is read. -/
structure Cx where
  P : Nat
  G : List Gt
  ga : Option Addr
  gc : Nat
  pa : Option Addr
  pc : Nat
  H : Nat
def places (G : List Gt) : List Int := (List.range G.length).map (place G)
theorem places_len (G : List Gt) : (places G).length = G.length := by simp [places]
theorem places_at (G : List Gt) {i : Nat} (h : i < G.length) : (places G)[i]? = some (place G i) := by simp [places, h]
structure Pz (c : Cx) (w : World) (s : Ps) : Prop where
  obj : w.heap[c.P]? = some (.cells #[.slice c.ga c.G.length c.gc, .slice c.pa c.G.length c.pc, .int .i64 s.i, .int .i64 s.opens, .int .i64 s.groups, .int .i64 s.err, .int .i64 s.wh] 44)
  runes : Rd eG w c.ga c.G c.gc
  places : Rd eI w c.pa (places c.G) c.pc
  ng : ∀ ad, c.ga = some ad → ad.block ≠ c.P
  np : ∀ ad, c.pa = some ad → ad.block ≠ c.P
  le : s.i ≤ c.G.length
  len : c.G.length ≤ 120
  gr : s.groups ≤ 4
  op : s.opens ≤ 20
  hH : c.H ≤ w.heap.size
  hP : c.P < c.H
  hg : ∀ ad, c.ga = some ad → ad.block < c.H
  hp : ∀ ad, c.pa = some ad → ad.block < c.H
variable {c : Cx} {w w' : World} {s t : Ps}
theorem Pz.lt (h : Pz c w s) : c.P < w.heap.size := heap_lt h.obj
theorem Pz.keep (h : Pz c w s) (hb : Below w.heap.size w w') : Pz c w' s :=
  ⟨(hb.block _ h.lt).trans h.obj, h.runes.kept hb, h.places.kept hb, h.ng, h.np, h.le, h.len, h.gr, h.op, Nat.le_trans h.hH hb.size, h.hP, h.hg, h.hp⟩
theorem Pz.keepB {B : Nat} (h : Pz c w s) (hb : Below B w w') (hB : c.H ≤ B) : Pz c w' s :=
  ⟨(hb.block _ (Nat.lt_of_lt_of_le h.hP hB)).trans h.obj, h.runes.below hb fun ad e _ => Nat.lt_of_lt_of_le (h.hg ad e) hB, h.places.below hb fun ad e _ => Nat.lt_of_lt_of_le (h.hp ad e) hB,
    h.ng, h.np, h.le, h.len, h.gr, h.op, Nat.le_trans h.hH hb.size, h.hP, h.hg, h.hp⟩
theorem Kp.thenB {P B : Nat} {a b c : World} (h : Kp P a b) (k : Below B b c) (hB : a.heap.size ≤ B) : Kp P a c :=
  ⟨k.os.trans h.os, k.tape.trans h.tape, k.output.trans h.output, Nat.le_trans h.size k.size, fun i hi hn => (k.block i (by omega)).trans (h.block i hi hn)⟩
theorem Pz.mod (h : Pz c w s) (k : Kp c.P w w') (ho : w'.heap[c.P]? = some (.cells #[.slice c.ga c.G.length c.gc, .slice c.pa c.G.length c.pc, .int .i64 t.i, .int .i64 t.opens, .int .i64 t.groups, .int .i64 t.err, .int .i64 t.wh] 44))
    (h1 : t.i ≤ c.G.length) (h2 : t.groups ≤ 4) (h3 : t.opens ≤ 20) : Pz c w' t :=
  ⟨ho, rd_kp h.runes k h.ng, rd_kp h.places k h.np, h.ng, h.np, h1, h.len, h2, h3, Nat.le_trans h.hH k.size, h.hP, h.hg, h.hp⟩
theorem obj_set {P o : Nat} {cs : Array Value} {E : TypeId} {u : Value} (h : w.heap[P]? = some (.cells cs E)) : (w.setCell ⟨P, o, none⟩ u).heap[P]? = some (.cells (cs.setIfInBounds o u) E) := by
  show (w.heap.modify P _)[P]? = _
  rw [Array.getElem?_modify, if_pos rfl, h]
  rfl
theorem Pz.set_i (h : Pz c w s) {j : Nat} (hj : j ≤ c.G.length) : Pz c (w.setCell ⟨c.P, 2, none⟩ (.int .i64 j)) { s with i := j } :=
  h.mod (Kp.set _ _ _ _) (by rw [obj_set h.obj]; rfl) hj h.gr h.op
theorem Pz.set_opens (h : Pz c w s) {j : Nat} (hj : j ≤ 20) : Pz c (w.setCell ⟨c.P, 3, none⟩ (.int .i64 j)) { s with opens := j } :=
  h.mod (Kp.set _ _ _ _) (by rw [obj_set h.obj]; rfl) h.le h.gr hj
theorem Pz.set_groups (h : Pz c w s) {j : Nat} (hj : j ≤ 4) : Pz c (w.setCell ⟨c.P, 4, none⟩ (.int .i64 j)) { s with groups := j } :=
  h.mod (Kp.set _ _ _ _) (by rw [obj_set h.obj]; rfl) h.le hj h.op
theorem Pz.set_err (h : Pz c w s) (e : Int) : Pz c (w.setCell ⟨c.P, 5, none⟩ (.int .i64 e)) { s with err := e } :=
  h.mod (Kp.set _ _ _ _) (by rw [obj_set h.obj]; rfl) h.le h.gr h.op
theorem Pz.set_wh (h : Pz c w s) (e : Int) : Pz c (w.setCell ⟨c.P, 6, none⟩ (.int .i64 e)) { s with wh := e } :=
  h.mod (Kp.set _ _ _ _) (by rw [obj_set h.obj]; rfl) h.le h.gr h.op
theorem cell_of_obj {P o : Nat} {cs : Array Value} {E : TypeId} (h : w.heap[P]? = some (.cells cs E)) {u : Value} (hu : cs[o]? = some u) : w.cell? ⟨P, o, none⟩ = some u := by
  simp [World.cell?, h, hu]
theorem frozen_of_obj {P o : Nat} {cs : Array Value} {E : TypeId} (h : w.heap[P]? = some (.cells cs E)) : w.frozen? ⟨P, o, none⟩ = false := by
  simp [World.frozen?, h]
theorem Pz.c0 (h : Pz c w s) : w.cell? ⟨c.P, 0, none⟩ = some (.slice c.ga c.G.length c.gc) := cell_of_obj h.obj rfl
theorem Pz.c1 (h : Pz c w s) : w.cell? ⟨c.P, 1, none⟩ = some (.slice c.pa c.G.length c.pc) := cell_of_obj h.obj rfl
theorem Pz.c2 (h : Pz c w s) : w.cell? ⟨c.P, 2, none⟩ = some (.int .i64 s.i) := cell_of_obj h.obj rfl
theorem Pz.c3 (h : Pz c w s) : w.cell? ⟨c.P, 3, none⟩ = some (.int .i64 s.opens) := cell_of_obj h.obj rfl
theorem Pz.c4 (h : Pz c w s) : w.cell? ⟨c.P, 4, none⟩ = some (.int .i64 s.groups) := cell_of_obj h.obj rfl
theorem Pz.c5 (h : Pz c w s) : w.cell? ⟨c.P, 5, none⟩ = some (.int .i64 s.err) := cell_of_obj h.obj rfl
theorem Pz.c6 (h : Pz c w s) : w.cell? ⟨c.P, 6, none⟩ = some (.int .i64 s.wh) := cell_of_obj h.obj rfl
theorem Pz.fz (h : Pz c w s) (o : Nat) : w.frozen? ⟨c.P, o, none⟩ = false := frozen_of_obj h.obj
theorem runeAt_some {G : List Gt} {i : Nat} (h : i < G.length) : G[i]? = some (G.getD i (0, 0)) := getD_eq h _
theorem Pz.rune (h : Pz c w s) {i : Nat} (hi : i < c.G.length) : ∃ b off, c.ga = some ⟨b, off, none⟩ ∧ b ≠ c.P ∧ b < w.heap.size ∧
    w.cell? ⟨b, off + i * 2, none⟩ = some (.int .i32 (runeAt c.G i)) ∧ w.cell? ⟨b, off + i * 2 + 1, none⟩ = some (.int .i64 (c.G.getD i (0, 0)).2) := by
  obtain ⟨b, off, e, hb, hc⟩ := h.runes.cells eG_len (runeAt_some hi)
  have h0 := hc 0 (.int .i32 (runeAt c.G i)) (by omega) rfl
  have h1 := hc 1 (.int .i64 (c.G.getD i (0, 0)).2) (by omega) rfl
  simp only [Nat.add_zero] at h0
  simp only [← Nat.add_assoc] at h1
  exact ⟨b, off, e, h.ng _ e, hb, h0, h1⟩
theorem Pz.place (h : Pz c w s) {i : Nat} (hi : i < c.G.length) : ∃ b off, c.pa = some ⟨b, off, none⟩ ∧ b ≠ c.P ∧ b < w.heap.size ∧ w.cell? ⟨b, off + i, none⟩ = some (.int .i64 (place c.G i)) := by
  obtain ⟨b, off, e, hb, hc⟩ := h.places.cells eI_len (places_at c.G hi)
  have h0 := hc 0 (.int .i64 (syn.place c.G i)) (by omega) rfl
  simp only [Nat.add_zero, Nat.mul_one] at h0
  exact ⟨b, off, e, h.np _ e, hb, h0⟩
theorem isR_at {G : List Gt} {s : Ps} {r : Int} (h : s.i < G.length) : isR G s r = (runeAt G s.i == r) := by
  unfold isR runeAt
  rw [runeAt_some h]
theorem isR_out {G : List Gt} {s : Ps} {r : Int} (h : ¬ s.i < G.length) : isR G s r = false := by
  unfold isR
  rw [List.getElem?_eq_none (by omega)]
theorem bad_at {G : List Gt} {i : Nat} (h : i < G.length) : badB G i = (runeAt G i == 65533 && (G.getD i (0, 0)).2 == 1) := by
  unfold badB runeAt
  rw [runeAt_some h]
/-! ### Nodes -/
/-- A node, and the value of its ranges. -/
structure NdV where
  x : Nd
  a : Option Addr
  n : Nat
  c : Nat
def NdV.v (y : NdV) : Value := .slice y.a y.n y.c
def eN (y : NdV) : List Value := [.int .i64 y.x.op, .slice y.a y.n y.c, .int .i64 y.x.mn, .int .i64 y.x.mx, .bool y.x.lz, .int .i64 y.x.cap, .int .i64 y.x.kids]
theorem eN_len (y : NdV) : (eN y).length = 7 := rfl
abbrev OwnN (B : Nat) (w : World) (v : Value) (l : List NdV) : Prop := Own eN 7 35 B w v l
theorem eN_one (y : NdV) : ∀ u ∈ eN y, u.oneCell' = true := by simp [eN, Value.oneCell']
theorem elem_nd : ElemTy Tryz.prog 22 35 7 72 := ElemTy.mk' (z := .agg #[.int .i64 0, .slice none 0 0, .int .i64 0, .int .i64 0, .bool false, .int .i64 0, .int .i64 0]) Tryz.underlying22 (by kernel_rfl) rfl (by decide)
/-- The rows of nodes. -/
def NdsV (B : Nat) (w : World) (v : Value) (ls : List NdV) : Prop := OwnN B w v ls ∧ ∀ y ∈ ls, OwnR B w y.v y.x.r
/-- A value that is nodes of memory from B on. -/
def Nds (B : Nat) (w : World) (v : Value) (l : List Nd) : Prop := ∃ ls : List NdV, ls.map NdV.x = l ∧ NdsV B w v ls
theorem Own.blk {α : Type} {enc : α → List Value} {k : Nat} {E : TypeId} {B : Nat} {v : Value} {l : List α} (h : Own enc k E B w v l) (hk : ∀ g, v.ownBlock = some g → w'.heap[g]? = w.heap[g]?) : Own enc k E B w' v l := by
  refine ⟨h.1, ?_⟩
  rcases h.2 with h2 | ⟨g, cap, cur, rfl, hB, hg, h3⟩
  · exact .inl h2
  · exact .inr ⟨g, cap, cur, rfl, hB, (hk g rfl).trans hg, h3⟩
theorem Own.kp {α : Type} {enc : α → List Value} {k : Nat} {E : TypeId} {B P : Nat} {v : Value} {l : List α} (h : Own enc k E B w v l) (hk : Kp P w w') (hP : P < B) : Own enc k E B w' v l :=
  Own.blk h fun g hg => hk.block g (h.lt g hg).2 (by intro e; have h1 := (h.lt g hg).1; simp only [Option.some.injEq] at e; omega)
section
variable {B B' : Nat} {v : Value} {l : List Nd} {ls : List NdV}
theorem NdsV.kp {P : Nat} (h : NdsV B w v ls) (hk : Kp P w w') (hP : P < B) : NdsV B w' v ls := ⟨Own.kp h.1 hk hP, fun y hy => Own.kp (h.2 y hy) hk hP⟩
theorem NdsV.kept (h : NdsV B w v ls) (hb : Below w.heap.size w w') : NdsV B w' v ls := ⟨h.1.below hb (Nat.le_refl _), fun y hy => (h.2 y hy).below hb (Nat.le_refl _)⟩
theorem NdsV.mono (h : NdsV B w v ls) (hB : B' ≤ B) : NdsV B' w v ls := ⟨h.1.mono hB, fun y hy => (h.2 y hy).mono hB⟩
theorem Nds.kp {P : Nat} (h : Nds B w v l) (hk : Kp P w w') (hP : P < B) : Nds B w' v l := by
  obtain ⟨ls, h1, h2⟩ := h
  exact ⟨ls, h1, h2.kp hk hP⟩
theorem Nds.kept (h : Nds B w v l) (hb : Below w.heap.size w w') : Nds B w' v l := by
  obtain ⟨ls, h1, h2⟩ := h
  exact ⟨ls, h1, h2.kept hb⟩
theorem Nds.mono (h : Nds B w v l) (hB : B' ≤ B) : Nds B' w v l := by
  obtain ⟨ls, h1, h2⟩ := h
  exact ⟨ls, h1, h2.mono hB⟩
theorem Nds.nil (B : Nat) (w : World) : Nds B w (.slice none 0 0) [] := ⟨[], rfl, Own.nil _ _ _ _ _, by simp⟩
end
/-! ### Lists of nodes -/
structure PV where
  a : Option Addr
  n : Nat
  c : Nat
  ls : List NdV
def PV.v (p : PV) : Value := .slice p.a p.n p.c
def PV.l (p : PV) : List Nd := p.ls.map NdV.x
def eP (p : PV) : List Value := [.slice p.a p.n p.c]
theorem eP_len (p : PV) : (eP p).length = 1 := rfl
theorem eP_one (p : PV) : ∀ u ∈ eP p, u.oneCell' = true := by simp [eP, Value.oneCell']
theorem elem_pv : ElemTy Tryz.prog 71 22 1 24 := ElemTy.mk' (z := .slice none 0 0) Tryz.underlying71 (by kernel_rfl) rfl (by decide)
abbrev OwnP (B : Nat) (w : World) (v : Value) (l : List PV) : Prop := Own eP 1 22 B w v l
theorem NdsV.pv {B : Nat} {v : Value} {ls : List NdV} (h : NdsV B w v ls) : ∃ p : PV, p.ls = ls ∧ v = p.v ∧ p.n = ls.length := by
  obtain ⟨a, cap, e, _⟩ := h.1.rd
  exact ⟨⟨a, ls.length, cap, ls⟩, rfl, e, rfl⟩
theorem own_lit {α : Type} {enc : α → List Value} {k : Nat} {E : TypeId} {B : Nat} (w : World) (cs : Array Value) (l : List α) (n : Nat) (hn : n = l.length) (hk : ∀ x, (enc x).length = k) (hc : cs.toList = flat enc l) (hB : B ≤ w.heap.size) (hm : n ≤ 4096) :
    Own enc k E B (w.alloc (.cells cs E)) (.slice (some ⟨w.heap.size, 0, none⟩) n n) l := by
  subst hn
  have hs : cs.size = l.length * k := by rw [← Array.length_toList, hc, flat_len hk]
  have := World.ownsRow_lit (e := E) (size := k) w cs l.length hB (by unfold maxLen; omega) hs
  rw [hc] at this
  exact this
theorem ndsV_one {B : Nat} {w : World} (hB : B ≤ w.heap.size) (y : NdV) (ho : OwnR B w y.v y.x.r) : NdsV B (w.alloc (.cells #[.int .i64 y.x.op, .slice y.a y.n y.c, .int .i64 y.x.mn, .int .i64 y.x.mx, .bool y.x.lz, .int .i64 y.x.cap, .int .i64 y.x.kids] 35)) (.slice (some ⟨w.heap.size, 0, none⟩) 1 1) [y] :=
  ⟨own_lit w _ [y] 1 rfl eN_len rfl hB (by omega), fun z hz => by
    obtain rfl : z = y := by simpa using hz
    exact ho.alloc _⟩
theorem NdsV.rd {B : Nat} {w : World} {a : Option Addr} {n c : Nat} {ls : List NdV} (h : NdsV B w (.slice a n c) ls) : n = ls.length ∧ Rd eN w a ls c := by
  obtain ⟨a', cap, e, r, _⟩ := h.1.rd
  simp only [Value.slice.injEq] at e
  obtain ⟨rfl, rfl, rfl⟩ := e
  exact ⟨rfl, r⟩
end Go.Proofs.YtooockbfagkknaaGreatDoor.syn
