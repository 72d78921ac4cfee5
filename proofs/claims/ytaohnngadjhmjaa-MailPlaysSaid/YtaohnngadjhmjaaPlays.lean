/- MailPlays walked. -/
import Derived.Test.YtaohnngadjhmjaaWithin
import Derived.Test.YtaohnngadjhmjaaRuns
import Derived.Deep.CutBlock
import Derived.StillTailTactics
import Derived.Deep.DeepMust
import Derived.Deep.RegionWith
import Derived.Deep.RegionLaw
import Derived.OwnWalk
namespace Go.Proofs.Ytaohnngadjhmjaa.play
open Go.RowKit Go.Proofs.Ytaohnngadjhmjaa.sl Go.Proofs.Ytaohnngadjhmjaa.mail
theorem OwnO.headAt {E : TypeId} {B g off n cap : Nat} {w : World} {y : Int} {l : List Int} (h : OwnO E B w (.slice (some ⟨g, off, none⟩) n cap) (y :: l)) :
    w.cell? ⟨g, off, none⟩ = some (.int .i64 y) ∧ OwnO E B w (.slice (some (if cap = 1 then ⟨g, off, none⟩ else ⟨g, off + 1, none⟩)) l.length (cap - 1)) l := by
  obtain ⟨g', off', cap', hv, _, _, _, h1, h2⟩ := h.head
  simp only [Value.slice.injEq, Option.some.injEq, Addr.mk.injEq, and_true] at hv
  obtain ⟨⟨rfl, rfl⟩, -, rfl⟩ := hv
  exact ⟨h1, h2 _ rfl⟩
structure Ask where
  k : Int
  b : Int
  n : Int
def eA (a : Ask) : List Value := [.int .i64 a.k, .int .i64 a.b, .int .i64 a.n]
theorem eA_len (a : Ask) : (eA a).length = 3 := rfl
def eO (o : Option Nat) : List Value := [.pointer (o.map fun b => ⟨b, 0, none⟩)]
theorem eO_len (o : Option Nat) : (eO o).length = 1 := rfl
def lk (x : BoxS) (s : Rw) (l : List Int) : Prop := x.q = l.map (Value.int .i64) ∧ (x.cap : Int) = s.r ∧ x.cl = s.c ∧ l.length ≤ x.cap ∧ x.cap ≤ 6
def Lk (L : List BoxS) (S : List Rw) (Q : List (List Int)) : Prop := ∀ (i : Nat) x s l, L[i]? = some x → S[i]? = some s → Q[i]? = some l → lk x s l
theorem Lk.set {L : List BoxS} {S : List Rw} {Q : List (List Int)} (h : Lk L S Q) {i : Nat} {x x' : BoxS} {s s' : Rw} {l l' : List Int} (hx : L[i]? = some x) (hs : S[i]? = some s) (hl : Q[i]? = some l) (hn : lk x' s' l') : Lk (L.set i x') (S.set i s') (Q.set i l') := by
  intro j y t m hy ht hm
  rcases getElem?_set_some hx hy with ⟨rfl, rfl⟩ | ⟨n1, hy⟩ <;> rcases getElem?_set_some hs ht with ⟨e2, rfl⟩ | ⟨n2, ht⟩ <;> rcases getElem?_set_some hl hm with ⟨e3, rfl⟩ | ⟨n3, hm⟩
  all_goals first | exact hn | exact h j y t m hy ht hm | (exfalso; omega)
def row0 (x : BoxS) : Rw := ⟨.slice none 0 0, x.cap, false⟩
/-- After k boxes are made. -/
structure Pre (N : Nat) (W w : World) (k : Nat) (L : List BoxS) : Prop where
  len : L.length = k
  boxes : Boxes (N + 3) w L
  new : ∀ (i : Nat) x, L[i]? = some x → x.T = 62 ∧ x.q = [] ∧ x.cl = false ∧ x.cap ≤ 6
  ptrs : Own eO 1 49 (N + 1) w (.slice (some ⟨N + 1, 0, none⟩) 3 3) (L.map (fun x : BoxS => some x.b) ++ List.replicate (3 - k) none)
  rows : Own eW 3 52 (N + 2) w (.slice (some ⟨N + 2, 0, none⟩) 3 3) (L.map row0 ++ List.replicate (3 - k) ⟨.slice none 0 0, 0, false⟩)
  below : Below N W w
  size : N + 3 ≤ w.heap.size
theorem own_lit {α : Type} {enc : α → List Value} {k : Nat} {E : TypeId} {B : Nat} (w : World) (cs : Array Value) (l : List α) (n : Nat) (hn : n = l.length) (hk : ∀ x, (enc x).length = k) (hc : cs.toList = flat enc l) (hB : B ≤ w.heap.size) (hm : n ≤ 4096) :
    Own enc k E B (w.alloc (.cells cs E)) (.slice (some ⟨w.heap.size, 0, none⟩) n n) l := by
  subst hn
  have hs : cs.size = l.length * k := by rw [← Array.length_toList, hc, flat_len hk]
  have := World.ownsRow_lit (e := E) (size := k) w cs l.length hB (by unfold maxLen; omega) hs
  rw [hc] at this
  exact this
theorem rd_block {α : Type} {enc : α → List Value} {w w' : World} {g o : Nat} {l : List α} {cap : Nat} (h : Rd enc w (some ⟨g, o, none⟩) l cap) (hs : g < w'.heap.size) (hb : w'.heap[g]? = w.heap[g]?) : Rd enc w' (some ⟨g, o, none⟩) l cap :=
  ⟨h.none_, h.le, h.max, fun ad e => by
    obtain ⟨h1, h2, h3⟩ := h.at_ ad e
    cases e
    exact ⟨h1, hs, fun j u hj => (World.cell?_of_block hb).trans (h3 j u hj)⟩⟩
theorem set_fill {α : Type} {A : List α} {k : Nat} (hA : A.length = k) (hk : k < 3) (z u : α) : (A ++ List.replicate (3 - k) z).set k u = (A ++ [u]) ++ List.replicate (3 - (k + 1)) z := by
  subst hA
  rw [List.set_append_right _ _ (Nat.le_refl _), Nat.sub_self, show 3 - A.length = (3 - (A.length + 1)) + 1 by omega, List.replicate_succ, List.set_cons_zero, List.append_assoc]
  rfl
abbrev oA (r0 r1 r2 : Int) : Obj := .cells #[.int .i64 r0, .int .i64 r1, .int .i64 r2] 47
abbrev oB : Obj := .cells #[.pointer none, .pointer none, .pointer none] 49
abbrev oC : Obj := .cells #[.slice none 0 0, .int .i64 0, .bool false, .slice none 0 0, .int .i64 0, .bool false, .slice none 0 0, .int .i64 0, .bool false] 52
theorem pre0 (W : World) (r0 r1 r2 : Int) : Pre W.heap.size W (((W.alloc (oA r0 r1 r2)).alloc oB).alloc oC) 0 [] ∧ Rd ev (((W.alloc (oA r0 r1 r2)).alloc oB).alloc oC) (some ⟨W.heap.size, 0, none⟩) [r0, r1, r2] 3 := by
  have s1 : (W.alloc (oA r0 r1 r2)).heap.size = W.heap.size + 1 := by simp
  have s2 : ((W.alloc (oA r0 r1 r2)).alloc oB).heap.size = W.heap.size + 2 := by simp
  have b1 := (Below.refl W.heap.size W).alloc (Nat.le_refl _) (oA r0 r1 r2)
  have b2 := b1.alloc (by omega) oB
  have b3 := b2.alloc (by omega) oC
  have h1 := own_lit (enc := eO) (k := 1) (E := 49) (B := W.heap.size + 1) (W.alloc (oA r0 r1 r2)) #[.pointer none, .pointer none, .pointer none] [none, none, none] 3 rfl eO_len rfl (by omega) (by omega)
  have h2 := own_lit (enc := eW) (k := 3) (E := 52) (B := W.heap.size + 2) ((W.alloc (oA r0 r1 r2)).alloc oB) #[.slice none 0 0, .int .i64 0, .bool false, .slice none 0 0, .int .i64 0, .bool false, .slice none 0 0, .int .i64 0, .bool false] [⟨.slice none 0 0, 0, false⟩, ⟨.slice none 0 0, 0, false⟩, ⟨.slice none 0 0, 0, false⟩] 3 rfl eW_len rfl (by omega) (by omega)
  have h3 := Rd.built (w := W) (E := 47) (cs := #[.int .i64 r0, .int .i64 r1, .int .i64 r2]) (enc := ev) [r0, r1, r2] 3 rfl rfl (by omega)
  rw [s1] at h1
  rw [s2] at h2
  refine ⟨⟨rfl, Boxes.nil _ _, by simp, h1.alloc _, h2, b3, by simp⟩, ?_⟩
  have h4 := h3.kept (((Below.refl _ (W.alloc (oA r0 r1 r2))).alloc (Nat.le_refl _) oB).alloc (by simp) oC)
  exact h4
theorem mem_of_pre {N : Nat} {W w : World} {L : List BoxS} (p : Pre N W w 3 L) : Mem N W w L (L.map row0) [[], [], []] ∧ Lk L (L.map row0) [[], [], []] := by
  have hp := p.ptrs
  have hr := p.rows
  simp only [Nat.sub_self, List.replicate_zero, List.append_nil] at hp hr
  have e : flat eO (L.map fun x : BoxS => some x.b) = flat eP (L.map BoxS.b) := by simp [flat, List.flatMap_map, eO, eP]
  have q0 : ∀ (i : Nat) (l : List Int), [([] : List Int), [], []][i]? = some l → l = [] := fun i l h => by
    have := List.mem_of_getElem? h
    simpa using this
  refine ⟨⟨p.boxes, fun i x hx => (p.new i x hx).1, ?_, hr, fun i s l hs hl => ?_, fun i j s t hij hs ht g hg => ?_, p.below, p.size, p.len, by simp [p.len], rfl⟩, fun i x s l hx hs hl => ?_⟩
  · unfold Own at hp ⊢
    rw [e] at hp
    simpa using hp
  · rw [q0 i l hl]
    simp only [List.getElem?_map, Option.map_eq_some_iff] at hs
    obtain ⟨x, _, rfl⟩ := hs
    exact .inl ⟨rfl, rfl⟩
  · simp only [List.getElem?_map, Option.map_eq_some_iff] at hs
    obtain ⟨x, _, rfl⟩ := hs
    cases hg
  · rw [q0 i l hl]
    simp only [List.getElem?_map, hx, Option.map_some, Option.some.injEq] at hs
    subst hs
    obtain ⟨_, h2, h3, h4⟩ := p.new i x hx
    exact ⟨by simp [h2], rfl, h3, by simp, h4⟩
theorem elem_int : ElemTy Try.prog 37 3 1 8 := ElemTy.mk' (z := .int .i64 0) Try.underlying37 (by kernel_rfl) rfl (by decide)
theorem wpList_appO {P : Program} {w : World} {ops : Array Oper} {rest : List Oper} {o : Oper} {a : Act} {Q : Exit → Act → World → Prop} {T E : TypeId} {bytes B : Nat} {s x : Operand} {v : Value} {l : List Int} {n : Nat} {y : Int}
    (ET : ElemTy P T E 1 bytes) (hgd : o.guard = none) (ho : o.op = .call { callee := .builtin .append, args := #[s, x], argTypes := #[T, T] })
    (hs : a.eval s = v) (hx : a.eval x = .slice (some ⟨n, 0, none⟩) 1 1) (hown : OwnO E B w v l) (hn : w.cell? ⟨n, 0, none⟩ = some (.int .i64 y)) (hmax : l.length ≤ 1000000) (hby : bytes ≤ 65536) (hB : B ≤ w.heap.size)
    (h : ∀ v' w', OwnO E B w' v' (l ++ [y]) → w.grownBy w' v.ownBlock → Fresh w v v' → wpList P ops Q rest (a.put o.dst v') w') : wpList P ops Q (o :: rest) a w := by
  obtain ⟨v', w', hr, h2, h3, h4⟩ := run_appO (P := P) (ty := o.type) w ET hown n y hn hmax hby hB
  refine wpList_plain hgd fun K hK => ?_
  unfold Oper.wp execOp
  simp only [ho, resolve, invoke, builtin, Sem.run_bind, Sem.run_pure, Result.andThen_ok, List.map_toArray, List.map_cons, List.map_nil, hs, hx, hr]
  exact hK _ _ (h v' w' h2 h3 h4)
theorem step_appO {P : Program} {ops : Array Oper} {w : World} {o : Oper} {a : Act} {K : Act → World → Prop} {Q : Exit → Act → World → Prop} {C : Prop} {T E : TypeId} {bytes B : Nat} {s x : Operand} {v : Value} {l : List Int} {n : Nat} {y : Int}
    (ET : ElemTy P T E 1 bytes) (hgd : o.guard = none) (ho : o.op = .call { callee := .builtin .append, args := #[s, x], argTypes := #[T, T] })
    (hs : a.eval s = v) (hx : a.eval x = .slice (some ⟨n, 0, none⟩) 1 1) (hown : OwnO E B w v l) (hn : w.cell? ⟨n, 0, none⟩ = some (.int .i64 y)) (hmax : l.length ≤ 1000000) (hby : bytes ≤ 65536) (hB : B ≤ w.heap.size)
    (h : ∀ v' w', OwnO E B w' v' (l ++ [y]) → w.grownBy w' v.ownBlock → Fresh w v v' → K (a.put o.dst v') w') : if Region.wanted o (yielded ops a.tmps) = true then Oper.wp P o a w K Q else C := by
  have hw : Region.wanted o (yielded ops a.tmps) = true := by simp [Region.wanted, hgd]
  rw [if_pos hw]
  obtain ⟨v', w', hr, h2, h3, h4⟩ := run_appO (P := P) (ty := o.type) w ET hown n y hn hmax hby hB
  unfold Oper.wp execOp
  simp only [ho, resolve, invoke, builtin, Sem.run_bind, Sem.run_pure, Result.andThen_ok, List.map_toArray, List.map_cons, List.map_nil, hs, hx, hr]
  exact h v' w' h2 h3 h4
theorem Mem.row_after {N : Nat} {W w w1 : World} {L : List BoxS} {S : List Rw} {Q : List (List Int)} (M : Mem N W w L S Q) {i : Nat} {s : Rw} (hs : S[i]? = some s) (hg : w.grownBy w1 s.v.ownBlock) :
    w1.cell? ⟨N + 2, i * 3, none⟩ = some s.v ∧ w1.frozen? ⟨N + 2, i * 3, none⟩ = false := by
  have hb : w1.heap[N + 2]? = w.heap[N + 2]? := hg.block _ (by have := M.size; omega) fun e => by
    obtain ⟨l, hl⟩ := M.getQ hs
    have := ((M.own i s l hs hl).lt _ e.symm).1
    omega
  have := (M.row hs).1
  exact ⟨(World.cell?_of_block hb).trans this.1, (World.frozen?_of_block hb).trans this.2⟩
theorem lenO {B : Nat} {w : World} {L : List BoxS} {i n : Nat} {x : BoxS} (hi : L[i]? = some x) (H : Boxes B w L) (hn : x.q.length = n) :
    Calls Try.prog 21 #[.pointer (some ⟨x.b, 0, none⟩)] w fun e w' => e = .returned (.int .i64 n) ∧ w' = w := by subst hn; exact Len_int hi H
theorem closedO {B : Nat} {w : World} {L : List BoxS} {i : Nat} {c : Bool} {x : BoxS} (hi : L[i]? = some x) (H : Boxes B w L) (hc : x.cl = c) :
    Calls Try.prog 11 #[.pointer (some ⟨x.b, 0, none⟩)] w fun e w' => e = .returned (.bool c) ∧ w' = w := by subst hc; exact Closed_int hi H
/-- The first list that has something, looked for from the end. -/
def wn (Q : List (List Int)) : Nat → Int
  | 0 => -1
  | k + 1 => if (Q.getD (2 - k) []).length = 0 then wn Q k else ((2 - k : Nat) : Int)
theorem wn_step {Q : List (List Int)} {k j : Nat} {l : List Int} (h : 2 - k = j) (hl : Q[j]? = some l) : wn Q (k + 1) = if l.length = 0 then wn Q k else (j : Int) := by
  subst h
  simp [wn, List.getD_eq_getElem?_getD, hl]
theorem four_alloc (w : World) (a b c : Nat) (E : TypeId) : Four (w.alloc (.cells #[.pointer (some ⟨a, 0, none⟩), .pointer none, .pointer (some ⟨b, 0, none⟩), .pointer (some ⟨c, 0, none⟩)] E)) w.heap.size a b c := by
  have h := heap_alloc_new w (.cells #[.pointer (some ⟨a, 0, none⟩), .pointer none, .pointer (some ⟨b, 0, none⟩), .pointer (some ⟨c, 0, none⟩)] E)
  constructor <;> (simp only [World.cell?, h]; rfl)
/-- What mail.First says of the three boxes. -/
def Fst (N : Nat) (w : World) (L : List BoxS) (S : List Rw) (Q : List (List Int)) (e : Ending) (w' : World) : Prop :=
  (wn Q 3 = -1 ∧ e = .returned (.tuple #[.int .i64 (-1), .int .i64 0, .bool false]) ∧ w' = w) ∨
  ∃ (i : Nat) (x : BoxS) (s : Rw) (v : Int) (l : List Int) (n : Int), i < 3 ∧ L[i]? = some x ∧ S[i]? = some s ∧ Q[i]? = some (v :: l) ∧ wn Q 3 = i ∧ (0 < i → n = (i : Int) + 1) ∧ (¬ 0 < i → n = (i : Int)) ∧ e = .returned (.tuple #[.int .i64 n, .int .i64 v, .bool true]) ∧
    Boxes (N + 3) w' (L.set i { x with q := l.map (Value.int .i64) }) ∧ Off x w w'
theorem firstAll {N : Nat} {W w : World} {L : List BoxS} {S : List Rw} {Q : List (List Int)} (M : Mem N W w L S Q) (LK : Lk L S Q) {m : Nat} {x0 x1 x2 : BoxS} (h0 : L[0]? = some x0) (h1 : L[1]? = some x1) (h2 : L[2]? = some x2) (F : Four w m x0.b x1.b x2.b) :
    Calls Try.prog 12 #[.slice (some ⟨m, 0, none⟩) 4 4] w (Fst N w L S Q) := by
  have g : ∀ (i : Nat) x, L[i]? = some x → ∃ s l, S[i]? = some s ∧ Q[i]? = some l ∧ x.q = l.map (Value.int .i64) := fun i x hx => by
    obtain ⟨s, hs⟩ : ∃ y, S[i]? = some y := ⟨_, List.getElem?_eq_getElem (by rw [M.len2, ← M.len1]; exact lt_of_some hx)⟩
    obtain ⟨l, hl⟩ := M.getQ hs
    exact ⟨s, l, hs, hl, (LK i x s l hx hs hl).1⟩
  obtain ⟨s0, l0, e0, q0, k0⟩ := g 0 x0 h0
  obtain ⟨s1, l1, e1, q1, k1⟩ := g 1 x1 h1
  obtain ⟨s2, l2, e2, q2, k2⟩ := g 2 x2 h2
  have a1 := wn_step (k := 0) rfl q2
  have a2 := wn_step (k := 1) rfl q1
  have a3 := wn_step (k := 2) rfl q0
  rcases l0 with _ | ⟨v, l0⟩
  · rcases l1 with _ | ⟨v, l1⟩
    · rcases l2 with _ | ⟨v, l2⟩
      · refine (First_3 h0 h1 h2 M.boxes F (by rw [k0]; rfl) (by rw [k1]; rfl) (by rw [k2]; rfl)).mono ?_
        rintro e w' ⟨rfl, rfl⟩
        exact .inl ⟨by rw [a3, a2, a1]; simp [wn], rfl, rfl⟩
      · refine (FirstO_2 h0 h1 h2 M.boxes F (by rw [k0]; rfl) (by rw [k1]; rfl) v (q := l2.map (Value.int .i64)) (by rw [k2]; rfl)).mono ?_
        rintro e w' ⟨rfl, b, o⟩
        exact .inr ⟨2, x2, s2, v, l2, 3, by omega, h2, e2, q2, by rw [a3, a2, a1]; simp [wn], by simp, by simp, rfl, b, o⟩
    · refine (FirstO_1 (i2 := 0) h0 h1 M.boxes F (by rw [k0]; rfl) v (q := l1.map (Value.int .i64)) (by rw [k1]; rfl)).mono ?_
      rintro e w' ⟨rfl, b, o⟩
      exact .inr ⟨1, x1, s1, v, l1, 2, by omega, h1, e1, q1, by rw [a3, a2]; simp, by simp, by simp, rfl, b, o⟩
  · refine (FirstO_0 (i1 := 0) (i2 := 0) h0 M.boxes F v (q := l0.map (Value.int .i64)) (by rw [k0]; rfl)).mono ?_
    rintro e w' ⟨rfl, b, o⟩
    exact .inr ⟨0, x0, s0, v, l0, 0, by omega, h0, e0, q0, by rw [a3]; simp, by simp, by simp, rfl, b, o⟩
theorem one_cell (w : World) (x : Value) (E : TypeId) : (w.alloc (.cells #[x] E)).cell? ⟨w.heap.size, 0, none⟩ = some x := by
  have h := heap_alloc_new w (.cells #[x] E)
  simp only [World.cell?, h]
  rfl
set_option maxHeartbeats 8000000 in
set_option maxRecDepth 100000 in
theorem plays (r0 r1 r2 : Int) (a : Option Addr) (asks : List Ask) (cap : Nat) (W : World) (h : Rd eA W a asks cap) :
    Calls Try.prog 5 #[.agg #[.int .i64 r0, .int .i64 r1, .int .i64 r2], .slice a asks.length cap] W fun e w' => e = .returned (.bool true) ∧ Below W.heap.size W w' := by
  have hmax := h.max
  have hle := h.le
  unfold maxLen at hmax
  have H := Lib.hid h
  clear h
  go_enter Try.func5, Try.ntmps5
  go_wp2_with fail
  obtain ⟨p0, rm0⟩ := pre0 W r0 r1 r2
  generalize ((W.alloc (oA r0 r1 r2)).alloc oB).alloc oC = w0 at p0 rm0
  rw [show W.heap.size + 1 + 1 = W.heap.size + 2 from rfl]
  have P0 := Lib.hid p0
  have RM0 := Lib.hid rm0
  clear p0 rm0
  generalize hN : W.heap.size = N at P0 RM0
  go_loopg [7] 3 (fun g i wr => ∃ (k : Nat) (L : List BoxS), k ≤ 3 ∧ g = 3 - k ∧ i = .int .i64 k ∧ Pre N W wr k L ∧ Rd ev wr (some ⟨N, 0, none⟩) [r0, r1, r2] 3)
  case atStart => exact ⟨0, [], by omega, rfl, rfl, P0.out, RM0.out⟩
  case round =>
    obtain ⟨k, L, hk, rfl, rfl, p, rm⟩ := hrel
    have PP := Lib.hid p
    have RM := Lib.hid rm
    by_cases hlt : k < 3
    · have hx : [r0, r1, r2][k]? = some ([r0, r1, r2].getD k 0) := getD_eq (by simpa using hlt) 0
      generalize [r0, r1, r2].getD k 0 = r at hx
      obtain ⟨b', off', e', _, hc⟩ := rm.cells ev_len hx
      cases e'
      have c0 := hc 0 (.int .i64 r) (by omega) rfl
      simp only [Nat.mul_one, Nat.add_zero, Nat.zero_add] at c0
      have e0 : k - (L.map row0).length = 0 := by simp [p.len]
      have e1 : k - (L.map fun x : BoxS => some x.b).length = 0 := by simp [p.len]
      have hrow : (L.map row0 ++ List.replicate (3 - k) ⟨.slice none 0 0, 0, false⟩)[k]? = some ⟨.slice none 0 0, 0, false⟩ := by
        rw [List.getElem?_append_right (by simp [p.len]), e0, List.getElem?_replicate, if_pos (by omega)]
      have hptr : (L.map (fun x : BoxS => some x.b) ++ List.replicate (3 - k) none)[k]? = some none := by
        rw [List.getElem?_append_right (by simp [p.len]), e1, List.getElem?_replicate, if_pos (by omega)]
      have eN : 3 = (L.map row0 ++ List.replicate (3 - k) (⟨.slice none 0 0, 0, false⟩ : Rw)).length := by rw [List.length_append, List.length_map, List.length_replicate, p.len]; omega
      have eM : 3 = (L.map (fun x : BoxS => some x.b) ++ List.replicate (3 - k) none).length := by rw [List.length_append, List.length_map, List.length_replicate, p.len]; omega
      obtain ⟨f1, f1'⟩ := p.rows.cellAt eN eW_len (i := k) (t := 1) (u := .int .i64 0) hrow (by omega) rfl
      have HR := Lib.hid hrow
      have HP := Lib.hid hptr
      have EN := Lib.hid eN
      have EM := Lib.hid eM
      clear hx hc eN eM hrow hptr p rm e0 e1
      go_wp2_with fail
      refine (within6 r wr).mono ?_
      rintro e w' ⟨n, rfl, n1, n6, rfl⟩
      have o3 := PP.out.rows.store EN.out eW_len (i := k) (t := 1) (y := ⟨.slice none 0 0, n, false⟩) (u := .int .i64 n) HR.out (by omega) rfl
      have EN3 := Lib.hid (show 3 = ((L.map row0 ++ List.replicate (3 - k) (⟨.slice none 0 0, 0, false⟩ : Rw)).set k ⟨.slice none 0 0, n, false⟩).length by rw [List.length_set]; exact EN.out)
      have g1 := (o3.cellAt EN3.out eW_len (i := k) (t := 1) (x := ⟨.slice none 0 0, n, false⟩) (u := .int .i64 n) (List.getElem?_set_self (by rw [← EN.out]; omega)) (by omega) rfl).1
      have O3 := Lib.hid o3
      have sz := PP.out.size
      clear o3
      go_wp2_with fail
      have bx1 : Boxes (N + 3) (w'.setCell ⟨N + 2, k * 3 + 1, none⟩ (.int .i64 n)) L := PP.out.boxes.keep fun j hj _ => setCell_other _ _ _ _ (by simp; omega)
      have b1 : Below N w' (w'.setCell ⟨N + 2, k * 3 + 1, none⟩ (.int .i64 n)) := (Below.refl _ _).setCell (by simp) _
      have op1 : Own eO 1 49 (N + 1) (w'.setCell ⟨N + 2, k * 3 + 1, none⟩ (.int .i64 n)) (.slice (some ⟨N + 1, 0, none⟩) 3 3) (L.map (fun x : BoxS => some x.b) ++ List.replicate (3 - k) none) := own_block PP.out.ptrs fun g hg => by cases hg; exact setCell_other _ _ _ _ (by simp)
      have rm1 : (w'.setCell ⟨N + 2, k * 3 + 1, none⟩ (.int .i64 n)).heap[N]? = w'.heap[N]? := setCell_other _ _ _ _ (by simp)
      have sz1 : (w'.setCell ⟨N + 2, k * 3 + 1, none⟩ (.int .i64 n)).heap.size = w'.heap.size := setCell_size _ _ _
      have o3 := O3.out
      clear O3 g1 f1 f1' c0
      generalize w'.setCell ⟨N + 2, k * 3 + 1, none⟩ (.int .i64 n) = w1 at bx1 b1 op1 rm1 sz1 o3
      have RW := Lib.hid rm1
      have O3 := Lib.hid o3
      have OP1 := Lib.hid op1
      have szw : N + 3 ≤ w1.heap.size := by omega
      clear rm1 o3 op1 sz1
      refine (newO n w1 n1 (by omega) bx1 szw).mono ?_
      rintro e w2 ⟨y, yT, yc, yq, ycl, rfl, bx2, b2⟩
      have YF := Lib.hid (And.intro yT (And.intro yc (And.intro yq ycl)))
      have op2 : Own eO 1 49 (N + 1) w2 (.slice (some ⟨N + 1, 0, none⟩) 3 3) (L.map (fun x : BoxS => some x.b) ++ List.replicate (3 - k) none) := own_block OP1.out fun g hg => by cases hg; exact b2.block _ (by simp; omega)
      obtain ⟨g2, g2'⟩ := op2.cellAt EM.out eO_len (i := k) (t := 0) (u := .pointer none) HP.out (by omega) rfl
      have o4 := op2.store EM.out eO_len (i := k) (t := 0) (y := some y.b) (u := .pointer (some ⟨y.b, 0, none⟩)) HP.out (by omega) rfl
      simp only [Nat.mul_one, Nat.add_zero] at g2 g2' o4
      have O4 := Lib.hid o4
      have B2 := Lib.hid b2
      have BX2 := Lib.hid bx2
      clear yT yc yq ycl o4 op2 b2 bx2
      go_wp2_with fail
      go_roundg (3 - (k + 1))
      case measure => omega
      case rel =>
        have s2 := B2.out.size
        refine ⟨k + 1, L ++ [y], by omega, rfl, by go_num, ⟨by simp [PP.out.len], BX2.out.keep fun j hj _ => setCell_other _ _ _ _ (by simp; omega), fun i x hx => ?_, ?_, ?_, ?_, by rw [setCell_size]; omega⟩, ?_⟩
        · rcases Nat.lt_or_ge i L.length with h | h
          · rw [List.getElem?_append_left h] at hx
            exact PP.out.new i x hx
          · rw [List.getElem?_append_right h] at hx
            have hx' := List.mem_of_getElem? hx
            simp at hx'
            subst hx'
            exact ⟨YF.out.1, YF.out.2.2.1, YF.out.2.2.2, by rw [YF.out.2.1]; exact n6⟩
        · have := O4.out
          rw [set_fill (by simp [PP.out.len]) hlt] at this
          simp only [List.map_append, List.map_cons, List.map_nil]
          exact this
        · have := own_block (own_block O3.out (fun g hg => by cases hg; exact B2.out.block _ (by simp; omega))) (fun g hg => by cases hg; exact setCell_other w2 ⟨N + 1, k, none⟩ (.pointer (some ⟨y.b, 0, none⟩)) _ (by simp))
          rw [set_fill (by simp [PP.out.len]) hlt] at this
          simp only [List.map_append, List.map_cons, List.map_nil]
          have e : row0 y = ⟨.slice none 0 0, n, false⟩ := by simp only [row0, YF.out.2.1]
          rw [e]
          exact this
        · exact (PP.out.below.trans b1).trans ((B2.out.mono (by omega)).trans ((Below.refl _ _).setCell (by simp) _))
        · refine rd_block RM.out (by rw [setCell_size]; omega) ?_
          rw [setCell_other _ _ _ _ (by simp), B2.out.block N (by omega), RW.out]
    · obtain rfl : k = 3 := by omega
      obtain ⟨m0, l0⟩ := mem_of_pre p
      have M0 := Lib.hid m0
      have L0 := Lib.hid l0
      clear p rm PP RM m0 l0 hlt
      go_wp2_with fail
      go_loopg [10] asks.length (fun g i wr => ∃ (k : Nat) (L : List BoxS) (S : List Rw) (Q : List (List Int)), k ≤ asks.length ∧ g = asks.length - k ∧ i = .int .i64 k ∧ Mem N W wr L S Q ∧ Lk L S Q)
      case atStart => exact ⟨0, _, _, _, by omega, rfl, rfl, M0.out, L0.out⟩
      case round =>
        clear M0 L0
        obtain ⟨k, L, S, Q, hk, rfl, rfl, m, lk0⟩ := hrel
        by_cases hlt : k < asks.length
        · by_cases h200 : k < 200
          · obtain ⟨⟨xk, xb, xn⟩, hx⟩ : ∃ x, asks[k]? = some x := ⟨_, List.getElem?_eq_getElem hlt⟩
            obtain ⟨b, off, rfl, hbl, hc⟩ := (H.out.kept (by rw [hN]; exact m.below)).cells eA_len hx
            have c0 := hc 0 (.int .i64 xk) (by omega) rfl
            have c1 := hc 1 (.int .i64 xb) (by omega) rfl
            have c2 := hc 2 (.int .i64 xn) (by omega) rfl
            have M := Lib.hid m
            have LK := Lib.hid lk0
            clear hc hx m lk0
            simp only [Nat.add_zero] at c0
            simp only [← Nat.add_assoc] at c1 c2
            have i1 : (k : Int) < (asks.length : Int) := by omega
            have i2 : (k : Int) < 200 := by omega
            go_wp2_with fail
            refine (within3 xb _).mono ?_
            rintro e w1 ⟨j, rfl, hj, hw1⟩
            have ba := (Below.refl wr.heap.size wr).alloc (Nat.le_refl _) (.cells #[.int .i64 xk, .int .i64 xb, .int .i64 xn] 54)
            have ha := heap_alloc_new wr (.cells #[.int .i64 xk, .int .i64 xb, .int .i64 xn] 54)
            rw [← hw1] at ba ha
            have m1 := M.out.grow ba
            have hA : ∀ (i : Nat) y, L[i]? = some y → wr.heap.size ≠ y.b ∧ wr.heap.size ≠ y.c := fun i y hy => by have := (M.out.boxes.at_ i y hy).lt; omega
            have hS : ∀ (i : Nat) t, S[i]? = some t → t.v.ownBlock ≠ some wr.heap.size := fun i t ht e => by
              obtain ⟨l, hl⟩ := M.out.getQ ht
              have := ((M.out.own i t l ht hl).lt _ e).2.1
              omega
            have hsA := m1.size
            have hlA : wr.heap.size < w1.heap.size := mail.heap_lt ha
            have hNA := M.out.size
            have D0 : w1.cell? ⟨wr.heap.size, 0, none⟩ = some (.int .i64 xk) := by simp only [World.cell?, ha]; rfl
            have HA := Lib.hid hA
            have HS := Lib.hid hS
            have HD := Lib.hid ha
            have M1 := Lib.hid m1
            generalize wr.heap.size = A at HA HS HD hlA hNA D0
            clear m1 hw1 ba ha hA hS c0 c1 c2 M hbl
            go_upto_block 4 with fail
            go_cut [] (fun wx => ∃ (L : List BoxS) (S : List Rw) (Q : List (List Int)), Mem N W wx L S Q ∧ Lk L S Q)
            case first =>
              obtain ⟨bx, hbx⟩ : ∃ y, L[j]? = some y := ⟨_, List.getElem?_eq_getElem (by rw [M1.out.len1]; exact hj)⟩
              obtain ⟨⟨sv, sr, sc⟩, hs⟩ : ∃ y, S[j]? = some y := ⟨_, List.getElem?_eq_getElem (by rw [M1.out.len2]; exact hj)⟩
              obtain ⟨l, hl⟩ := M1.out.getQ hs
              obtain ⟨k1, k2, k3, k4, k5⟩ := LK.out j bx _ l hbx hs hl
              simp only at k2 k3
              subst k2
              obtain ⟨sa, scap, rfl, hc1, hc2⟩ := (M1.out.own j _ l hs hl).len
              unfold maxLen at hc2
              have KQ := Lib.hid k1
              have KC := Lib.hid k3
              have HBX := Lib.hid hbx
              have HSS := Lib.hid hs
              have HL := Lib.hid hl
              clear k1 k3 hbx hs hl
              by_cases h1 : xk = 1
              · subst h1
                --<K1
                obtain ⟨⟨f0, f0'⟩, ⟨f1, f1'⟩, ⟨f2, f2'⟩⟩ := M1.out.row HSS.out
                have p0 := M1.out.ptr HBX.out
                have d2 : w1.cell? ⟨A, 2, none⟩ = some (.int .i64 xn) := by simp only [World.cell?, HD.out]; rfl
                simp only at f0 f1 f2
                have ij : (j : Int) < 3 := by omega
                cases sc
                · by_cases hroom : l.length < bx.cap
                  · as_aux_lemma =>
                      have i3 : (l.length : Int) < (bx.cap : Int) := by omega
                      go_wp2_with fail
                      go_quiet (fail)
                      have m2 := M1.out.grow (drewN_below (Below.refl _ _) nq)
                      have hd2 : (w1.drewN nq).heap[A]? = _ := HD.out
                      have HD2 := Lib.hid hd2
                      have M2 := Lib.hid m2
                      clear m2 hd2 f0 f0' f1 f1' f2 f2' p0 d2 M1 HD D0
                      generalize w1.drewN nq = w2 at M2 HD2
                      have p0 := M2.out.ptr HBX.out
                      have d2 : w2.cell? ⟨A, 2, none⟩ = some (.int .i64 xn) := by simp only [World.cell?, HD2.out]; rfl
                      have hcl : bx.cl = false := KC.out
                      have hql : bx.q.length < bx.cap := by rw [KQ.out]; simpa using hroom
                      have HCL := Lib.hid hcl
                      have HQL := Lib.hid hql
                      clear hcl hql
                      go_upto_region 19 with fail
                      go_cut [96] (fun s wx => s = .bool false ∧ Mem N W wx (L.set j { bx with q := bx.q ++ [.int .i64 xn] }) S Q ∧ wx.heap[A]? = some (.cells #[.int .i64 1, .int .i64 xb, .int .i64 xn] 54))
                      case first =>
                        go_region_with ((go_at_call 8; refine (sendO_can HBX.out ((M2.out.grow (drewN_below (Below.refl _ _) 1)).boxes) HCL.out HQL.out xn).mono ?_; rintro e w4 ⟨rfl, bx4, of4⟩))
                        all_goals (go_wp2_with fail)
                        all_goals go_meet
                        all_goals exact ⟨rfl, (M2.out.grow (drewN_below (Below.refl _ _) 1)).off HBX.out bx4 of4 rfl rfl, (of4.2.2.2.2 A (HA.out j bx HBX.out).1 (HA.out j bx HBX.out).2).trans HD2.out⟩
                      case rest =>
                        as_aux_lemma =>
                          obtain ⟨rfl, m4, hd4⟩ := hcut
                          have HD4 := Lib.hid hd4
                          have M4 := Lib.hid m4
                          clear m4 hd4 p0 d2 M2 HD2
                          generalize wc = w4 at M4 HD4
                          obtain ⟨⟨f0, f0'⟩, -, -⟩ := M4.out.row HSS.out
                          simp only at f0
                          have d2 : w4.cell? ⟨A, 2, none⟩ = some (.int .i64 xn) := by simp only [World.cell?, HD4.out]; rfl
                          have m6 := (M4.out.grow (drewN_below (Below.refl _ _) 1)).grow ((Below.refl w4.drew.heap.size w4.drew).alloc (Nat.le_refl _) (.cells #[.int .i64 xn] 3))
                          have M6 := Lib.hid m6
                          have y0 : (w4.drew.alloc (.cells #[.int .i64 xn] 3)).cell? ⟨w4.heap.size, 0, none⟩ = some (.int .i64 xn) := one_cell w4.drew (.int .i64 xn) 3
                          have oo := m6.own j _ l HSS.out HL.out
                          have s6 := m6.size
                          have ll : l.length ≤ 1000000 := by omega
                          simp only at oo
                          obtain ⟨⟨fa, -⟩, -, -⟩ := (M4.out.grow ((Below.refl w4.heap.size w4).alloc (Nat.le_refl _) (.cells #[.int .i64 xn] 3))).row HSS.out
                          simp only at fa
                          have Y0 := Lib.hid y0
                          have OO := Lib.hid oo
                          clear m6 y0 oo
                          go_wp2_with fail
                          go_region_law (refine step_appO (v := .slice sa l.length scap) elem_int rfl rfl (by simp [Act.eval, Act.put]) (by simp [Act.eval, Act.put]) OO.out Y0.out ll (by omega) s6 ?_; intro v7 w7 o7 g7 fr7; obtain ⟨f0, f0'⟩ := M6.out.row_after HSS.out g7; obtain ⟨a7, c7, rfl, -, -⟩ := o7.len)
                          all_goals (go_wp2_with fail)
                          all_goals go_meet
                          all_goals (
                            have e8 : (l ++ [xn]).length = l.length + 1 := by simp
                            rw [e8] at fr7 o7
                            refine ⟨_, _, _, M6.out.list HSS.out g7 fr7 o7, LK.out.set HBX.out HSS.out HL.out ⟨?_, rfl, KC.out, ?_, k5⟩⟩
                            · simp [KQ.out]
                            · simp; omega)
                  · as_aux_lemma =>
                      have i3 : decide ((l.length : Int) < (bx.cap : Int)) = false := by simp; omega
                      have hn : bx.cl = true ∨ bx.cap ≤ bx.q.length := .inr (by rw [KQ.out]; simp; omega)
                      have HNS := Lib.hid hn
                      clear hn
                      go_wp2_with fail
                      go_quiet (fail)
                      have m2 := M1.out.grow (drewN_below (Below.refl _ _) nq)
                      have hd2 : (w1.drewN nq).heap[A]? = _ := HD.out
                      have HD2 := Lib.hid hd2
                      have M2 := Lib.hid m2
                      clear m2 hd2 f0 f0' f1 f1' f2 f2' p0 d2 M1 HD D0
                      generalize w1.drewN nq = w2 at M2 HD2
                      have p0 := M2.out.ptr HBX.out
                      have d2 : w2.cell? ⟨A, 2, none⟩ = some (.int .i64 xn) := by simp only [World.cell?, HD2.out]; rfl
                      go_wp2_with fail
                      go_quiet ((go_at_call 8; exact Calls.quiet_of_same (sendO_not HBX.out ((M2.out.grow (drewN_below (Below.refl _ _) _)).boxes) HNS.out xn)))
                      go_wp2_with fail
                      go_meet
                      exact ⟨L, S, Q, M2.out.grow (drewN_below (Below.refl _ _) _), LK.out⟩
                · as_aux_lemma =>
                    have hn : bx.cl = true ∨ bx.cap ≤ bx.q.length := .inl (by rw [KC.out])
                    have HNS := Lib.hid hn
                    clear hn
                    go_wp2_with fail
                    go_quiet (fail)
                    have m2 := M1.out.grow (drewN_below (Below.refl _ _) nq)
                    have hd2 : (w1.drewN nq).heap[A]? = _ := HD.out
                    have HD2 := Lib.hid hd2
                    have M2 := Lib.hid m2
                    clear m2 hd2 f0 f0' f1 f1' f2 f2' p0 d2 M1 HD D0
                    generalize w1.drewN nq = w2 at M2 HD2
                    have p0 := M2.out.ptr HBX.out
                    have d2 : w2.cell? ⟨A, 2, none⟩ = some (.int .i64 xn) := by simp only [World.cell?, HD2.out]; rfl
                    go_wp2_with fail
                    go_quiet ((go_at_call 8; exact Calls.quiet_of_same (sendO_not HBX.out ((M2.out.grow (drewN_below (Below.refl _ _) _)).boxes) HNS.out xn)))
                    go_wp2_with fail
                    go_meet
                    exact ⟨L, S, Q, M2.out.grow (drewN_below (Below.refl _ _) _), LK.out⟩
                -->
              · have n1 : (xk == 1) = false := by simpa using h1
                by_cases h2 : xk = 2
                · subst h2
                  clear n1 h1
                  have p0 := M1.out.ptr HBX.out
                  have ij : (j : Int) < 3 := by omega
                  rcases l with _ | ⟨v, l'⟩
                  · --<K2a
                    as_aux_lemma =>
                      have RN := Lib.hid (Recv_none_int HBX.out M1.out.boxes (by rw [KQ.out]; rfl))
                      obtain ⟨⟨f0, f0'⟩, -, -⟩ := M1.out.row HSS.out
                      simp only at f0
                      go_wp2_with (go_at_call 9; refine RN.out.mono ?_; rintro e w2 ⟨rfl, rfl⟩)
                      go_meet
                      exact ⟨L, S, Q, M1.out, LK.out⟩
                    -->
                  · --<K2b
                    as_aux_lemma =>
                      have RS := Lib.hid (recvO HBX.out M1.out.boxes v (q := l'.map (Value.int .i64)) (by rw [KQ.out]; rfl))
                      obtain ⟨g, off2, cap2, hv, hgB, hcp1, hcp2, _, _⟩ := (M1.out.own j _ _ HSS.out HL.out).head
                      simp only [List.length_cons, Value.slice.injEq, true_and] at hv
                      obtain ⟨rfl, rfl⟩ := hv
                      have hpos : (0 : Int) < (l'.length : Int) + 1 := by omega
                      by_cases hcap : scap = 1
                      · go_wp2_with (go_at_call 9; refine RS.out.mono ?_; rintro e w2 ⟨rfl, bx2, of2⟩; have M2 := Lib.hid (M1.out.off HBX.out bx2 of2 rfl rfl); obtain ⟨⟨f0, f0'⟩, -, -⟩ := M2.out.row HSS.out; simp only [List.length_cons] at f0; obtain ⟨fv, fo⟩ := (M2.out.own j _ _ HSS.out HL.out).headAt; have FO := Lib.hid fo; clear fo)
                        go_meet
                        have fo := FO.out
                        rw [if_pos hcap, show scap - 1 = 0 by omega] at fo
                        exact ⟨_, _, _, M2.out.list HSS.out (World.grownBy.refl _ _) (.inl rfl) fo, LK.out.set HBX.out HSS.out HL.out ⟨rfl, rfl, KC.out, by simp at k4 ⊢; omega, k5⟩⟩
                      · go_wp2_with (go_at_call 9; refine RS.out.mono ?_; rintro e w2 ⟨rfl, bx2, of2⟩; have M2 := Lib.hid (M1.out.off HBX.out bx2 of2 rfl rfl); obtain ⟨⟨f0, f0'⟩, -, -⟩ := M2.out.row HSS.out; simp only [List.length_cons] at f0; obtain ⟨fv, fo⟩ := (M2.out.own j _ _ HSS.out HL.out).headAt; have FO := Lib.hid fo; clear fo)
                        go_meet
                        have fo := FO.out
                        rw [if_neg hcap] at fo
                        exact ⟨_, _, _, M2.out.list HSS.out (World.grownBy.refl _ _) (.inl rfl) fo, LK.out.set HBX.out HSS.out HL.out ⟨rfl, rfl, KC.out, by simp at k4 ⊢; omega, k5⟩⟩
                    -->
                · have n2 : (xk == 2) = false := by simpa using h2
                  by_cases h3 : xk = 3
                  · subst h3
                    clear n1 n2 h1 h2
                    --<K3
                    as_aux_lemma =>
                      have p0 := M1.out.ptr HBX.out
                      have ij : (j : Int) < 3 := by omega
                      have CL := Lib.hid (closeO HBX.out M1.out.boxes)
                      go_wp2_with (go_at_call 10; refine CL.out.mono ?_; rintro e w2 ⟨rfl, bx2, of2⟩; have M2 := Lib.hid (M1.out.off HBX.out bx2 of2 rfl rfl); obtain ⟨-, -, f2, f2'⟩ := M2.out.row HSS.out)
                      go_meet
                      refine ⟨_, _, _, M2.out.put (s' := ⟨.slice sa l.length scap, bx.cap, true⟩) HSS.out (by omega) rfl rfl, ?_⟩
                      have := LK.out.set (x' := { bx with cl := true }) (s' := ⟨.slice sa l.length scap, bx.cap, true⟩) (l' := l) HBX.out HSS.out HL.out ⟨KQ.out, rfl, rfl, k4, k5⟩
                      rwa [set_same HL.out] at this
                    -->
                  · have n3 : (xk == 3) = false := by simpa using h3
                    by_cases h4 : xk = 4
                    · subst h4
                      clear n1 n2 n3 h1 h2 h3
                      --<K4
                      as_aux_lemma =>
                        obtain ⟨x0, hx0⟩ : ∃ y, L[0]? = some y := ⟨_, List.getElem?_eq_getElem (by rw [M1.out.len1]; omega)⟩
                        obtain ⟨x1, hx1⟩ : ∃ y, L[1]? = some y := ⟨_, List.getElem?_eq_getElem (by rw [M1.out.len1]; omega)⟩
                        obtain ⟨x2, hx2⟩ : ∃ y, L[2]? = some y := ⟨_, List.getElem?_eq_getElem (by rw [M1.out.len1]; omega)⟩
                        have p0 := M1.out.ptr hx0
                        have p1 := M1.out.ptr hx1
                        have p2 := M1.out.ptr hx2
                        have ma := M1.out.grow ((Below.refl w1.heap.size w1).alloc (Nat.le_refl _) (.cells #[.pointer (some ⟨x0.b, 0, none⟩), .pointer none, .pointer (some ⟨x1.b, 0, none⟩), .pointer (some ⟨x2.b, 0, none⟩)] 22))
                        have FA := Lib.hid (firstAll ma LK.out hx0 hx1 hx2 (four_alloc w1 x0.b x1.b x2.b 22))
                        have MA := Lib.hid ma
                        clear hx0 hx1 hx2 ma
                        go_wp2_with fail
                        refine FA.out.mono ?_
                        rintro e w2 (⟨hw, rfl, ew⟩ | ⟨i, x, ⟨sv, sr, sc⟩, v, l', n, hi3, hx, hs, hl, hw, hn1, hn2, rfl, bx2, of2⟩)
                        · have M2 : Hid (Mem N W w2 L S Q) := Lib.hid (by rw [ew]; exact MA.out)
                          clear ew p0 p1 p2 MA FA M1 HD D0
                          go_wp2_with fail
                          go_loopg [19, 20] 3 (fun g x y wr => ∃ k : Nat, k ≤ 3 ∧ g = 3 - k ∧ x = .int .i64 (wn Q k) ∧ y = .int .i64 (2 - (k : Int)) ∧ wr = w2)
                          case atStart => exact ⟨0, by omega, rfl, rfl, rfl, rfl⟩
                          case round =>
                            obtain ⟨k5, hk5, rfl, rfl, rfl, rfl⟩ := hrel
                            by_cases hk3 : k5 < 3
                            · obtain ⟨jj, hjn⟩ : ∃ jj : Nat, 2 - k5 = jj := ⟨_, rfl⟩
                              have hjj : (2 : Int) - k5 = jj := by omega
                              obtain ⟨⟨sv2, sr2, sc2⟩, hs2⟩ : ∃ y, S[jj]? = some y := ⟨_, List.getElem?_eq_getElem (by rw [M2.out.len2]; omega)⟩
                              obtain ⟨l2, hl2⟩ := M2.out.getQ hs2
                              obtain ⟨sa2, scap2, rfl, hd1, hd2⟩ := (M2.out.own jj _ l2 hs2 hl2).len
                              obtain ⟨⟨f0, f0'⟩, -, -⟩ := M2.out.row hs2
                              simp only at f0
                              have WS := Lib.hid (wn_step hjn hl2)
                              have HJ := Lib.hid (show (jj : Int) - 1 = 2 - ((k5 + 1 : Nat) : Int) by omega)
                              have ij : (jj : Int) < 3 := by omega
                              rw [hjj]
                              clear hs2 hl2 hjn hjj
                              by_cases hp : l2.length = 0
                              · have HP := Lib.hid hp
                                rw [hp] at f0
                                clear hp
                                go_wp2_with fail
                                go_roundg (3 - (k5 + 1))
                                case measure => omega
                                case rel => exact ⟨k5 + 1, by omega, rfl, by rw [WS.out, if_pos HP.out], by first | (rw [← HJ.out]; go_num) | (rw [← HJ.out]), rfl⟩
                              · have hp2 : (0 : Int) < (l2.length : Int) := by omega
                                go_wp2_with fail
                                go_roundg (3 - (k5 + 1))
                                case measure => omega
                                case rel => exact ⟨k5 + 1, by omega, rfl, by rw [WS.out, if_neg hp], by first | (rw [← HJ.out]; go_num) | (rw [← HJ.out]), rfl⟩
                            · obtain rfl : k5 = 3 := by omega
                              rw [hw, show (2 : Int) - ((3 : Nat) : Int) = -1 from rfl]
                              go_wp2_with fail
                              go_meet
                              exact ⟨L, S, Q, M2.out, LK.out⟩
                        · have KA := Lib.hid (LK.out i x _ _ hx hs hl)
                          obtain ⟨sa, scap, rfl, hc1, hc2⟩ := (MA.out.own i _ _ hs hl).len
                          obtain ⟨g, off2, cap2, hv, hgB, hcp1, hcp2, _, _⟩ := (MA.out.own i _ _ hs hl).head
                          simp only [List.length_cons, Value.slice.injEq, true_and] at hv
                          obtain ⟨rfl, rfl⟩ := hv
                          unfold maxLen at hc2
                          have M2 := Lib.hid (MA.out.off hx bx2 of2 rfl rfl)
                          have HX2 := Lib.hid hx
                          have HS2 := Lib.hid hs
                          have HL2 := Lib.hid hl
                          simp only [List.length_cons] at hc1 hc2
                          clear hx hs hl bx2 of2 p0 p1 p2 MA FA M1 HD D0
                          go_wp2_with fail
                          go_loopg [19, 20] 3 (fun g x y wr => ∃ k : Nat, k ≤ 3 ∧ g = 3 - k ∧ x = .int .i64 (wn Q k) ∧ y = .int .i64 (2 - (k : Int)) ∧ wr = w2)
                          case atStart => exact ⟨0, by omega, rfl, rfl, rfl, rfl⟩
                          case round =>
                            obtain ⟨k5, hk5, rfl, rfl, rfl, rfl⟩ := hrel
                            by_cases hk3 : k5 < 3
                            · obtain ⟨jj, hjn⟩ : ∃ jj : Nat, 2 - k5 = jj := ⟨_, rfl⟩
                              have hjj : (2 : Int) - k5 = jj := by omega
                              obtain ⟨⟨sv2, sr2, sc2⟩, hs2⟩ : ∃ y, S[jj]? = some y := ⟨_, List.getElem?_eq_getElem (by rw [M2.out.len2]; omega)⟩
                              obtain ⟨l2, hl2⟩ := M2.out.getQ hs2
                              obtain ⟨sa2, scap2, rfl, hd1, hd2⟩ := (M2.out.own jj _ l2 hs2 hl2).len
                              obtain ⟨⟨f0, f0'⟩, -, -⟩ := M2.out.row hs2
                              simp only at f0
                              have WS := Lib.hid (wn_step hjn hl2)
                              have HJ := Lib.hid (show (jj : Int) - 1 = 2 - ((k5 + 1 : Nat) : Int) by omega)
                              have ij : (jj : Int) < 3 := by omega
                              rw [hjj]
                              clear hs2 hl2 hjn hjj
                              by_cases hp : l2.length = 0
                              · have HP := Lib.hid hp
                                rw [hp] at f0
                                clear hp
                                go_wp2_with fail
                                go_roundg (3 - (k5 + 1))
                                case measure => omega
                                case rel => exact ⟨k5 + 1, by omega, rfl, by rw [WS.out, if_pos HP.out], by first | (rw [← HJ.out]; go_num) | (rw [← HJ.out]), rfl⟩
                              · have hp2 : (0 : Int) < (l2.length : Int) := by omega
                                go_wp2_with fail
                                go_roundg (3 - (k5 + 1))
                                case measure => omega
                                case rel => exact ⟨k5 + 1, by omega, rfl, by rw [WS.out, if_neg hp], by first | (rw [← HJ.out]; go_num) | (rw [← HJ.out]), rfl⟩
                            · obtain rfl : k5 = 3 := by omega
                              rw [hw, show (2 : Int) - ((3 : Nat) : Int) = -1 from rfl]
                              have HW := Lib.hid hw
                              clear hw
                              have n0 : ¬ (i : Int) < 0 := by omega
                              have i3 : (i : Int) < 3 := by omega
                              have hpos : (0 : Int) < (l'.length : Int) + 1 := by omega
                              obtain ⟨⟨f0, f0'⟩, -, -⟩ := M2.out.row HS2.out
                              simp only [List.length_cons] at f0
                              obtain ⟨fv, fo⟩ := (M2.out.own i _ _ HS2.out HL2.out).headAt
                              have FO := Lib.hid fo
                              clear fo
                              by_cases hi0 : 0 < i
                              · have i0 : (0 : Int) < (i : Int) := by omega
                                rw [hn1 hi0]
                                clear hn1 hn2
                                by_cases hcap : scap = 1
                                · go_wp2_with fail
                                  go_meet
                                  have fo := FO.out
                                  rw [if_pos hcap, show scap - 1 = 0 by omega] at fo
                                  exact ⟨_, _, _, M2.out.list HS2.out (World.grownBy.refl _ _) (.inl rfl) fo, LK.out.set HX2.out HS2.out HL2.out ⟨rfl, KA.out.2.1, KA.out.2.2.1, by have := KA.out.2.2.2.1; simp at this ⊢; omega, KA.out.2.2.2.2⟩⟩
                                · go_wp2_with fail
                                  go_meet
                                  have fo := FO.out
                                  rw [if_neg hcap] at fo
                                  exact ⟨_, _, _, M2.out.list HS2.out (World.grownBy.refl _ _) (.inl rfl) fo, LK.out.set HX2.out HS2.out HL2.out ⟨rfl, KA.out.2.1, KA.out.2.2.1, by have := KA.out.2.2.2.1; simp at this ⊢; omega, KA.out.2.2.2.2⟩⟩
                              · have i0 : ¬ (0 : Int) < (i : Int) := by omega
                                rw [hn2 hi0]
                                clear hn1 hn2
                                by_cases hcap : scap = 1
                                · go_wp2_with fail
                                  go_meet
                                  have fo := FO.out
                                  rw [if_pos hcap, show scap - 1 = 0 by omega] at fo
                                  exact ⟨_, _, _, M2.out.list HS2.out (World.grownBy.refl _ _) (.inl rfl) fo, LK.out.set HX2.out HS2.out HL2.out ⟨rfl, KA.out.2.1, KA.out.2.2.1, by have := KA.out.2.2.2.1; simp at this ⊢; omega, KA.out.2.2.2.2⟩⟩
                                · go_wp2_with fail
                                  go_meet
                                  have fo := FO.out
                                  rw [if_neg hcap] at fo
                                  exact ⟨_, _, _, M2.out.list HS2.out (World.grownBy.refl _ _) (.inl rfl) fo, LK.out.set HX2.out HS2.out HL2.out ⟨rfl, KA.out.2.1, KA.out.2.2.1, by have := KA.out.2.2.2.1; simp at this ⊢; omega, KA.out.2.2.2.2⟩⟩
                      -->
                    · have n4 : (xk == 4) = false := by simpa using h4
                      --<K5
                      as_aux_lemma =>
                        go_wp2_with fail
                        go_meet
                        exact ⟨L, S, Q, M1.out, LK.out⟩
                      -->
            case rest =>
              obtain ⟨L', S', Q', m', lk'⟩ := hcut
              have M' := Lib.hid m'
              have LK' := Lib.hid lk'
              clear m' lk' M1 HA HS HD LK D0
              --<R
              as_aux_lemma =>
                go_wp2_with fail
                go_loopg [22] 3 (fun g i wr2 => ∃ (j : Nat), j ≤ 3 ∧ g = 3 - j ∧ i = .int .i64 j ∧ Mem N W wr2 L' S' Q')
                case atStart => exact ⟨0, by omega, rfl, rfl, M'.out⟩
                case round =>
                  obtain ⟨j, hj3, rfl, rfl, m2⟩ := hrel
                  have M2 := Lib.hid m2
                  clear m2
                  by_cases hj : j < 3
                  · obtain ⟨bx, hbx⟩ : ∃ y, L'[j]? = some y := ⟨_, List.getElem?_eq_getElem (by rw [M2.out.len1]; exact hj)⟩
                    obtain ⟨⟨sv, sr, sc⟩, hs⟩ : ∃ y, S'[j]? = some y := ⟨_, List.getElem?_eq_getElem (by rw [M2.out.len2]; exact hj)⟩
                    obtain ⟨l, hl⟩ := M2.out.getQ hs
                    obtain ⟨k1, k2, k3, k4, k5⟩ := LK'.out j bx _ l hbx hs hl
                    obtain ⟨sa, scap, rfl, hc1, hc2⟩ := (M2.out.own j _ l hs hl).len
                    unfold maxLen at hc2
                    have HBX := Lib.hid hbx
                    have p0 := M2.out.ptr hbx
                    obtain ⟨⟨f0, f0'⟩, -, ⟨f2, f2'⟩⟩ := M2.out.row hs
                    simp only at f0 f2 k3
                    have CLn := Lib.hid (show bx.q.length = l.length by rw [k1]; simp)
                    have CCl := Lib.hid k3
                    have ij : (j : Int) < 3 := by omega
                    clear hbx hs hl k1 k3
                    go_wp2_with fail
                    go_quiet (first | (go_at_call 21; exact Calls.quiet_of_same (lenO HBX.out ((M2.out.grow (drewN_below (Below.refl _ _) _)).boxes) CLn.out)) | (go_at_call 11; exact Calls.quiet_of_same (closedO HBX.out ((M2.out.grow (drewN_below (Below.refl _ _) _)).boxes) CCl.out)))
                    go_wp2_with fail
                    go_roundg (3 - (j + 1))
                    case measure => omega
                    case rel => exact ⟨j + 1, by omega, rfl, by go_num, M2.out.grow (drewN_below (Below.refl _ _) _)⟩
                  · obtain rfl : j = 3 := by omega
                    go_wp2_with fail
                    go_roundg (asks.length - (k + 1))
                    case measure => omega
                    case rel => exact ⟨k + 1, L', S', Q', by omega, rfl, by go_num, M2.out, LK'.out⟩
              -->
          · have i1 : (k : Int) < (asks.length : Int) := by omega
            have i2 : ¬ (k : Int) < 200 := by omega
            have B := Lib.hid m.below
            go_wp2_with fail
            refine (mail.runs wr).mono ?_
            rintro e w' ⟨rfl, hb⟩
            go_wp2_with fail
            go_ret
            rw [hN]
            exact ⟨rfl, B.out.trans (hb.mono (by have := B.out.size; omega))⟩
        · obtain rfl : k = asks.length := by omega
          have B := Lib.hid m.below
          go_wp2_with fail
          refine (mail.runs wr).mono ?_
          rintro e w' ⟨rfl, hb⟩
          go_wp2_with fail
          go_ret
          rw [hN]
          exact ⟨rfl, B.out.trans (hb.mono (by have := B.out.size; omega))⟩
end Go.Proofs.Ytaohnngadjhmjaa.play
