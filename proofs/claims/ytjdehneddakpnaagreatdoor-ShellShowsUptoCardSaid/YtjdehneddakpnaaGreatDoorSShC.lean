/- The shell's statements: what they share: the laid variables, a world that holds them, no goroutines, ShellRuns as a contract, arguments opened. -/
import Derived.Test.YtjdehneddakpnaaGreatDoorSSwA
import Derived.Test.YtjdehneddakpnaaGreatDoorRows
import Derived.OpenShut
import Derived.ProofKit
import Derived.Deep.Slices
import Derived.Test.YtjdehneddakpnaaGreatDoorSSwC
import Derived.WalkKit
import Derived.Test.YtjdehneddakpnaaGreatDoorChecked
import Derived.Test.YtjdehneddakpnaaGreatDoorCards
import Derived.Test.YtjdehneddakpnaaGreatDoorTie
import Derived.Test.YtjdehneddakpnaaGreatDoorCEvR
import Derived.Stop.LaidErr
import Derived.LaidLaws
import Derived.Plain9
import Derived.Deep.DeepHandedRow
import Derived.SevenTiedAt
set_option linter.all false
namespace Go.Proofs.YtjdehneddakpnaaGreatDoor.sx
open Go Go.RowKit Go.ChangeShapes Go.WideShapes Go.ChangeAt
inductive Lf where
  | int (k : IntKind)
  | bool
  | str
  | sl (e : TypeId)
def lfRep (l : List Lf) : Nat → List Lf
  | 0 => []
  | n + 1 => l ++ lfRep l n
def lfFs (P : Program) (g : TypeId → Option (List Lf)) : List Field → Nat → Option (List Lf)
  | [], _ => some []
  | f :: fs, o => match g f.type with
    | some l => if f.offset = o ∧ l.length = P.cellsOf f.type then (lfFs P g fs (o + l.length)).map fun r => l ++ r else none
    | none => none
def lvs (P : Program) : Nat → TypeId → Option (List Lf)
  | 0, _ => none
  | n + 1, t => match P.underlying t with
    | some (.int k) => some [.int k]
    | some .bool => some [.bool]
    | some .string => some [.str]
    | some (.slice e) => some [.sl e]
    | some (.array m e) => match lvs P n e with
      | some l => if l.length = P.cellsOf e ∧ P.cellsOf t = m * l.length then some (lfRep l m) else none
      | none => none
    | some (.struct fs) => match lfFs P (lvs P n) fs.toList 0 with
      | some l => if l.length = P.cellsOf t then some l else none
      | none => none
    | _ => none
/-- bulk of a row of data -/
theorem bulkAll_sum {H : Type} (l : List (DataW H)) : Rows.uptoBulkAll l = (l.map Rows.uptoBulk).sum := by
  induction l with
  | nil => simp [Rows.uptoBulkAll]
  | cons x r ih => simp only [Rows.uptoBulkAll, List.map_cons, List.sum_cons, ih]
section
variable {H : Type} {enc : TypeId × Value → H} {P : Program} {W : World} {held : Bool}
abbrev Trd (enc : TypeId × Value → H) (P : Program) (W : World) (held : Bool) := DataW.trod enc P W 0 (fun _ => true) held
/-- a leaf's cell, of bulk at most w -/
def LfOk (enc : TypeId × Value → H) (P : Program) (W : World) (held : Bool) (l : Lf) (v : Value) (w : Nat) : Prop := match l with
  | .int k => ∃ n, v = .int k n ∧ (Lit.int k n).wf = true
  | .bool => ∃ b, v = .bool b
  | .str => ∃ s : ByteArray, v = .string s ∧ s.size ≤ maxLen ∧ s.data.toList.length ≤ w
  | .sl e => v = .slice none 0 0 ∨ ∃ a len cap n, v = .slice (some a) len cap ∧ len ≤ cap ∧ cap ≤ maxLen ∧ ∃ D : Nat → DataW H, ((List.range len).map fun i => Rows.uptoBulk (D i)).sum ≤ w ∧
      ∀ i, i < len → ∃ cs p, W.cells? 0 (a.add (i * P.cellsOf e)) (P.cellsOf e) = some cs ∧ Trd enc P W held n e cs = some (D i, p)
inductive LfAll (enc : TypeId × Value → H) (P : Program) (W : World) (held : Bool) : List Lf → List Value → Nat → Prop
  | nil (T : Nat) : LfAll enc P W held [] [] T
  | cons {l : Lf} {ls : List Lf} {v : Value} {r : List Value} {w T T' : Nat} (h : LfOk enc P W held l v w) (k : LfAll enc P W held ls r T) (e : w + T ≤ T') : LfAll enc P W held (l :: ls) (v :: r) T'
theorem LfAll.mono {a : List Lf} {c : List Value} {S T : Nat} (h : LfAll enc P W held a c S) (hT : S ≤ T) : LfAll enc P W held a c T := by
  cases h with
  | nil => exact .nil T
  | cons h k e => exact .cons h k (by omega)
theorem LfAll.app {a b : List Lf} {c d : List Value} {S T : Nat} (h : LfAll enc P W held a c S) (k : LfAll enc P W held b d T) : LfAll enc P W held (a ++ b) (c ++ d) (S + T) := by
  induction h with
  | nil S => exact k.mono (by omega)
  | cons h _ e ih => exact .cons h ih (by omega)
theorem LfAll.len {a : List Lf} {c : List Value} {S : Nat} (h : LfAll enc P W held a c S) : a.length = c.length := by
  induction h with
  | nil => rfl
  | cons _ _ _ ih => simp [ih]
theorem LfAll.uncons {l : Lf} {ls : List Lf} {cs : List Value} {S : Nat} (h : LfAll enc P W held (l :: ls) cs S) : ∃ v r w T, cs = v :: r ∧ LfOk enc P W held l v w ∧ LfAll enc P W held ls r T ∧ w + T ≤ S := by
  cases h with
  | cons h k e => exact ⟨_, _, _, _, rfl, h, k, e⟩
theorem LfAll.nil_l {cs : List Value} {S : Nat} (h : LfAll enc P W held [] cs S) : cs = [] := by cases h; rfl
theorem LfAll.one {l : Lf} {v : Value} {w : Nat} (h : LfOk enc P W held l v w) : LfAll enc P W held [l] [v] w := .cons h (.nil 0) (by omega)
theorem lfFs_ok {g : TypeId → Option (List Lf)} {cs : List Value} (hg : ∀ t l cs' m x, g t = some l → Trd enc P W held m t cs' = some x → LfAll enc P W held l cs' (Rows.uptoBulk x.1)) :
    ∀ (fs : List Field) (xs : List (DataW H × List MemPlace)) (o : Nat) (l : List Lf), lfFs P g fs o = some l → xs.length = fs.length →
      (∀ (i : Nat) f x, fs[i]? = some f → xs[i]? = some x → ∃ m, Trd enc P W held m f.type ((cs.drop f.offset).take (P.cellsOf f.type)) = some x) →
      LfAll enc P W held l ((cs.drop o).take l.length) (xs.map fun x => Rows.uptoBulk x.1).sum
  | [], xs, o, l, h, _, _ => by cases h; simpa using LfAll.nil _
  | f :: fs, [], o, l, h, hl, _ => by simp at hl
  | f :: fs, x :: xs, o, l, h, hlx, hx => by
    unfold lfFs at h
    cases e : g f.type with
    | none => rw [e] at h; cases h
    | some l1 =>
      rw [e] at h
      simp only at h
      split at h
      · rename_i hc
        obtain ⟨ho, hl⟩ := hc
        cases e2 : lfFs P g fs (o + l1.length) with
        | none => rw [e2] at h; cases h
        | some l2 =>
          rw [e2] at h
          cases h
          obtain ⟨m, h1⟩ := hx 0 f x rfl rfl
          rw [ho, ← hl] at h1
          have k1 := hg _ _ _ _ _ e h1
          have k2 := lfFs_ok hg fs xs _ _ e2 (by simpa using hlx) fun i f' x' q q' => hx (i + 1) f' x' (by simpa using q) (by simpa using q')
          rw [List.length_append, List.take_add, List.drop_drop, List.map_cons, List.sum_cons]
          exact k1.app k2
      · cases h
theorem lfRep_ok {l : List Lf} {cs : List Value} : ∀ (xs : List (DataW H × List MemPlace)) (o : Nat), (∀ i x, xs[i]? = some x → LfAll enc P W held l ((cs.drop (o + i * l.length)).take l.length) (Rows.uptoBulk x.1)) →
    LfAll enc P W held (lfRep l xs.length) ((cs.drop o).take (xs.length * l.length)) (xs.map fun x => Rows.uptoBulk x.1).sum
  | [], o, _ => by simpa [lfRep] using LfAll.nil _
  | x :: xs, o, h => by
    have h0 := h 0 x rfl
    rw [Nat.zero_mul, Nat.add_zero] at h0
    have h1 := lfRep_ok xs (o + l.length) fun i x' hi => by
      have := h (i + 1) x' (by simpa using hi)
      rw [show o + (i + 1) * l.length = o + l.length + i * l.length by rw [Nat.add_mul]; omega] at this
      exact this
    rw [List.length_cons, Nat.add_mul, Nat.one_mul, Nat.add_comm (xs.length * l.length), List.take_add, List.drop_drop, List.map_cons, List.sum_cons]
    exact h0.app h1
theorem bulk_parts {xs : List (DataW H × List MemPlace)} : (xs.map fun x => Rows.uptoBulk x.1).sum ≤ Rows.uptoBulk (DataW.agg (xs.map (·.1))) := by
  simp only [Rows.uptoBulk, bulkAll_sum, List.map_map]
  exact Nat.le_succ _
theorem lvs_ok : ∀ (n : Nat) (t : TypeId) (ls : List Lf) (cs : List Value) (m : Nat) (x : DataW H × List MemPlace), lvs P n t = some ls → Trd enc P W held m t cs = some x → LfAll enc P W held ls cs (Rows.uptoBulk x.1)
  | 0, t, ls, cs, m, x, h, _ => by cases h
  | n + 1, t, ls, cs, m, x, h, hx => by
    unfold lvs at h
    cases hu : P.underlying t with
    | none => rw [hu] at h; cases h
    | some d =>
      rw [hu] at h
      cases d <;> simp only at h <;> (try (cases h; done))
      case bool =>
        cases h
        obtain ⟨b, rfl, _⟩ := DataW.trod_bool hu hx
        have : LfAll enc P W held [.bool] [.bool b] 0 := .one ⟨b, rfl⟩
        exact this.mono (Nat.zero_le _)
      case int k =>
        cases h
        obtain ⟨v, rfl, _, hw⟩ := DataW.trod_int hu hx
        have : LfAll enc P W held [.int k] [.int k v] 0 := .one ⟨v, rfl, hw⟩
        exact this.mono (Nat.zero_le _)
      case string =>
        cases h
        obtain ⟨s, rfl, rfl, hs⟩ := DataW.trod_string hu hx
        refine .one ⟨s, rfl, hs, ?_⟩
        simp only [Rows.uptoBulk]
        exact Nat.le_succ _
      case slice e =>
        cases h
        rcases Go.Deep.open_slice hu hx with ⟨rfl, _⟩ | ⟨a, len, cap, q, n', D, Pl, rfl, _, hl, hm, hmm, rfl, he⟩
        · exact .one (.inl rfl)
        · simp only [if_true] at hmm
          subst hmm
          refine .one (.inr ⟨a, len, q, n', rfl, hl, hm, D, ?_, fun i hi => ?_⟩)
          · simp only [Rows.uptoBulk, bulkAll_sum, List.map_map]
            show ((List.range len).map (Rows.uptoBulk ∘ D)).sum ≤ _
            omega
          · obtain ⟨cs', h1, h2⟩ := he i (by omega)
            exact ⟨cs', _, h1, h2⟩
      case array q e =>
        cases hl : lvs P n e with
        | none => rw [hl] at h; cases h
        | some l =>
          rw [hl] at h
          simp only at h
          split at h
          · rename_i hc
            cases h
            obtain ⟨xs, m', _, rfl, h1, h2, h3⟩ := DataW.trod_array hu hx
            subst h2
            have := lfRep_ok (enc := enc) (P := P) (W := W) (held := held) (l := l) (cs := cs) xs 0 fun i x hi => by
              have hi2 : i < xs.length := (List.getElem?_eq_some_iff.1 hi).1
              have h4 := h3 i hi2
              rw [hi] at h4
              rw [Nat.zero_add, hc.1]
              exact lvs_ok n e l _ _ _ hl h4
            rw [List.drop_zero, List.take_of_length_le (by omega)] at this
            exact this.mono bulk_parts
          · cases h
      case struct fs =>
        cases hl : lfFs P (lvs P n) fs.toList 0 with
        | none => rw [hl] at h; cases h
        | some l =>
          rw [hl] at h
          simp only at h
          split at h
          · rename_i hc
            cases h
            obtain ⟨xs, m', _, rfl, h1, h2, h3⟩ := DataW.trod_struct hu hx
            have := lfFs_ok (enc := enc) (P := P) (W := W) (held := held) (g := lvs P n) (cs := cs) (fun t l cs' m x => lvs_ok n t l cs' m x) fs.toList xs 0 ls hl (by simpa using h2) fun i f x hf hx => by
              have h4 := h3 i f (by simpa using hf)
              rw [hx] at h4
              exact ⟨m', h4⟩
            rw [List.drop_zero, List.take_of_length_le (by omega)] at this
            exact this.mono bulk_parts
          · cases h
end
end Go.Proofs.YtjdehneddakpnaaGreatDoor.sx
namespace Go.Proofs.YtjdehneddakpnaaGreatDoor.sx
open Go Go.RowKit Go.ChangeShapes Go.WideShapes Go.ChangeAt
set_option maxRecDepth 100000
/-- a cell that is no slice, as a leaf -/
def leaf0 (v : Value) : Option (AV D.E) := match v with
  | .int k n => bif inR k n then some (.int k n) else none
  | .bool b => some (.bool b)
  | .string s => if s.data.toList.length ≤ 9223372036854775807 then some (.str s.data.toList) else none
  | _ => none
noncomputable def base0 (W : World) : Pm D := ⟨fun _ => none, fun b o => (W.cell? ⟨b, o, none⟩).bind leaf0⟩
theorem leaf0_VR {M : Pm D} {v : Value} {u : AV D.E} (h : leaf0 v = some u) : pure0 u = true ∧ VR M u v := by
  cases v <;> simp only [leaf0] at h <;> (try (cases h; done))
  case bool b => cases h; exact ⟨rfl, .bool b⟩
  case int k n =>
    cases hr : inR k n with
    | false => rw [hr] at h; cases h
    | true => rw [hr] at h; cases h; exact ⟨rfl, .int hr⟩
  case string s =>
    split at h
    · rename_i hs; cases h; exact ⟨rfl, .str hs⟩
    · cases h
theorem base0_sim (W : World) (hn : D.ng ≤ W.heap.size) (hg : D.gw W) : Sim (base0 W) (fun _ => none) W := by
  refine ⟨fun b o h => (nomatch h), fun b b' o o' mi mi' h => (nomatch h), fun b o v h => ?_, fun b o mi h => (nomatch h), fun b c xs e mi h => (nomatch h), ⟨⟨hn, hg⟩, fun b o mi h => (nomatch h)⟩⟩
  have h : (W.cell? ⟨b, o, none⟩).bind leaf0 = some v := h
  cases e : W.cell? ⟨b, o, none⟩ with
  | none => rw [e] at h; cases h
  | some u =>
    rw [e] at h
    have h : leaf0 u = some v := h
    have := leaf0_VR (M := base0 W) h
    exact ⟨this.1, u, rfl, this.2⟩
theorem sum_le {α : Type} {f : α → Nat} : ∀ (xs : List α) (g : Nat → Nat), (∀ i (hi : i < xs.length), f xs[i] ≤ g i) → (xs.map f).sum ≤ ((List.range xs.length).map g).sum
  | [], g, _ => by simp
  | x :: xs, g, h => by
    have h0 := h 0 (by simp)
    have h1 := sum_le xs (fun i => g (i + 1)) fun i hi => h (i + 1) (by simp; omega)
    rw [List.length_cons, List.range_succ_eq_map, List.map_cons, List.sum_cons, List.map_cons, List.sum_cons, List.map_map]
    show f x + _ ≤ g 0 + ((List.range xs.length).map (fun i => g (i + 1))).sum
    have h0 : f x ≤ g 0 := h0
    omega
theorem len_sum {α : Type} (xs : List α) : (xs.map fun _ => 1).sum = xs.length := by induction xs with
  | nil => rfl
  | cons x xs ih => simp [ih]; omega
theorem bulk_one {H : Type} (d : DataW H) : 1 ≤ Rows.uptoBulk d := by
  cases d with
  | lit l => cases l <;> simp [Rows.uptoBulk]
  | nil => simp [Rows.uptoBulk]
  | ptr d => simp [Rows.uptoBulk]
  | slice elems spare => simp [Rows.uptoBulk]
  | agg parts => simp [Rows.uptoBulk]
  | iface t d => simp [Rows.uptoBulk]
  | map entries => simp [Rows.uptoBulk]
  | held h => simp [Rows.uptoBulk]
section
variable {H : Type} {enc : TypeId × Value → H} {P : Program} {W : World} {held : Bool} {M : Pm D}
/-- what the cells say, wherever they stand in the world -/
def CellsOk (M : Pm D) (W : World) (l : List (AV D.E)) (cs : List Value) : Prop := l.length = cs.length ∧ ∀ (j : Nat) (u : AV D.E) (v : Value), l[j]? = some u → cs[j]? = some v → ∀ b o, W.cell? ⟨b, o, none⟩ = some v → M.sg b o = some u
theorem CellsOk.nil : CellsOk M W [] [] := ⟨rfl, fun j u v h => by simp at h⟩
theorem CellsOk.cons {u : AV D.E} {v : Value} {l : List (AV D.E)} {cs : List Value} (h : ∀ b o, W.cell? ⟨b, o, none⟩ = some v → M.sg b o = some u) (k : CellsOk M W l cs) : CellsOk M W (u :: l) (v :: cs) :=
  ⟨by simp [k.1], fun j u' v' e e' => by
    cases j with
    | zero => simp at e e'; subst e; subst e'; exact h
    | succ j => exact k.2 j u' v' (by simpa using e) (by simpa using e')⟩
theorem row_of {c : Nat} {e : TypeId} {v : Value} {w : Nat} {Q : D.E c → Nat → Prop} (hP : P.cellsOf e = D.size c) (hp : 0 < D.size c)
    (hel : ∀ n cs x, Trd enc P W held n e cs = some x → ∃ y : D.E c, CellsOk M W (D.enc c y) cs ∧ Q y (Rows.uptoBulk x.1)) (h : LfOk enc P W held (.sl e) v w) :
    ∃ (xs : List (D.E c)) (g : Nat → Nat), VR M (.list c xs) v ∧ ((List.range xs.length).map g).sum ≤ w ∧ ∀ i (hi : i < xs.length), Q xs[i] (g i) := by
  rcases h with rfl | ⟨a, len, cap, n, rfl, hl, hm, DD, hsum, hx⟩
  · exact ⟨[], fun _ => 0, .listZ, by simp, fun i hi => by simp at hi⟩
  · by_cases h0 : len = 0
    · subst h0
      exact ⟨[], fun _ => 0, .listZ, by simp, fun i hi => by simp at hi⟩
    have hr : ∀ i, i < len → ∃ y : D.E c, ∃ cs, W.cells? 0 (a.add (i * D.size c)) (D.size c) = some cs ∧ CellsOk M W (D.enc c y) cs ∧ Q y (Rows.uptoBulk (DD i)) := fun i hi => by
      obtain ⟨cs, x, h1, h2⟩ := hx i hi
      rw [hP] at h1
      obtain ⟨y, hy, hq⟩ := hel n cs _ h2
      exact ⟨y, cs, h1, hy, hq⟩
    haveI : Inhabited (D.E c) := ⟨D.dfl c⟩
    obtain ⟨f, hf⟩ := Go.Deep.choose_lt hr
    obtain ⟨b, o, sp⟩ := a
    obtain ⟨cs0, c1, c2, _⟩ := hf 0 (by omega)
    have e0 : ((⟨b, o, sp⟩ : Addr).add (0 * D.size c)).add 0 = ⟨b, o, sp⟩ := by simp [Addr.add]
    have h3 := (World.cells?_some c1).2.2 0 hp
    rw [e0] at h3
    have hl0 : (D.enc c (f 0)).length = D.size c := D_ok.len c _
    rw [List.getElem?_eq_getElem (by rw [← c2.1, hl0]; exact hp)] at h3
    obtain rfl : sp = none := by
      cases sp with
      | none => rfl
      | some s =>
        simp only [World.cell?] at h3
        split at h3 <;> simp at h3
    have hlen : ((List.range len).map f).length = len := by simp
    refine ⟨(List.range len).map f, fun i => Rows.uptoBulk (DD i), ?_, by rw [hlen]; exact hsum, fun i hi => ?_⟩
    · have hv : VR M (.list c ((List.range len).map f)) (.slice (some ⟨b, o, none⟩) ((List.range len).map f).length cap) := by
        refine .list (fun i hi j u hu => ?_) (by rw [hlen]; unfold maxLen at hm; omega) (by rw [hlen]; exact hl)
        have hi2 : i < len := by simpa using hi
        simp only [List.getElem_map, List.getElem_range] at hu
        obtain ⟨cs, d1, d2, _⟩ := hf i hi2
        have hj : j < D.size c := by rw [← D_ok.len c (f i)]; exact (List.getElem?_eq_some_iff.1 hu).1
        have h4 := (World.cells?_some d1).2.2 j hj
        have ea : ((⟨b, o, none⟩ : Addr).add (i * D.size c)).add j = ⟨b, o + i * D.size c + j, none⟩ := by
          rw [Addr.add_lit, Addr.add_lit]
        rw [ea, List.getElem?_eq_getElem (by rw [← d2.1, D_ok.len]; exact hj)] at h4
        exact d2.2 j u _ hu (List.getElem?_eq_getElem _) _ _ h4
      rw [hlen] at hv
      exact hv
    · simp only [List.getElem_map, List.getElem_range]
      obtain ⟨_, _, _, hq⟩ := hf i (by simpa using hi)
      exact hq
theorem wf_inR {k : IntKind} {n : Int} (h : (Lit.int k n).wf = true) : inR k n = true := by
  rw [inR_iff]
  cases k <;> simp [Lit.wf, IntKind.min, IntKind.max, IntKind.signed, IntKind.bits] at h <;> simp [kMn, kMx] <;> omega
theorem cok_int {k : IntKind} {n : Int} (h : (Lit.int k n).wf = true) : ∀ b o, W.cell? ⟨b, o, none⟩ = some (.int k n) → (base0 W).sg b o = some (.int k n) := fun b o hc => by
  show (W.cell? ⟨b, o, none⟩).bind leaf0 = _
  rw [hc]
  show leaf0 (.int k n) = _
  simp only [leaf0, wf_inR h, cond_true]
theorem str_small {s : ByteArray} (h : s.size ≤ maxLen) : s.data.toList.length ≤ 9223372036854775807 := by
  have : s.data.toList.length = s.size := by rw [Array.length_toList]; rfl
  unfold maxLen at h
  omega
theorem cok_str {s : ByteArray} (h : s.size ≤ maxLen) : ∀ b o, W.cell? ⟨b, o, none⟩ = some (.string s) → (base0 W).sg b o = some (.str s.data.toList) := fun b o hc => by
  show (W.cell? ⟨b, o, none⟩).bind leaf0 = _
  rw [hc]
  show leaf0 (.string s) = _
  simp only [leaf0]
  rw [if_pos (str_small h)]
theorem open_told (n : Nat) (cs : List Value) (x : DataW H × List MemPlace) (h : Trd enc Tryz.prog W held n 48 cs = some x) : ∃ y : Told, CellsOk (base0 W) W (D.enc 4 (y : Told)) cs ∧ ((inR .i64 y.1 = true ∧ inR .i64 y.2 = true) ∧ 1 ≤ Rows.uptoBulk x.1) := by
  have g0 := lvs_ok 8 48 [.int .i64, .int .i64] cs n x (by kernel_rfl) h
  obtain ⟨v, r, w1, T1, rfl, ⟨a, rfl, q1⟩, g1, e1⟩ := g0.uncons
  obtain ⟨v, r, w2, T2, rfl, ⟨b, rfl, q2⟩, g2, e2⟩ := g1.uncons
  obtain rfl := g2.nil_l
  exact ⟨(a, b), .cons (cok_int q1) (.cons (cok_int q2) .nil), ⟨wf_inR q1, wf_inR q2⟩, bulk_one _⟩
theorem open_rec (n : Nat) (cs : List Value) (x : DataW H × List MemPlace) (h : Trd enc Tryz.prog W held n 80 cs = some x) : ∃ y : Rec, CellsOk (base0 W) W (D.enc 5 (y : Rec)) cs ∧ ((inR .i64 y.ino = true ∧ inR .i64 y.gen = true ∧ inR .i64 y.pos = true ∧ inR .i64 y.c0 = true ∧ inR .i64 y.c1 = true ∧ y.rule.length ≤ Rows.uptoBulk x.1) ∧ 1 ≤ Rows.uptoBulk x.1) := by
  have g0 := lvs_ok 8 80 [.int .i64, .int .i64, .int .i64, .str, .int .i64, .int .i64, .int .i64, .int .i64, .int .i64, .int .i64, .int .i64, .int .i64, .int .i64, .int .i64, .int .i64] cs n x (by kernel_rfl) h
  obtain ⟨v, r, w0, T0, rfl, ⟨a0, rfl, q0⟩, g0, e0⟩ := g0.uncons
  obtain ⟨v, r, w1, T1, rfl, ⟨a1, rfl, q1⟩, g0, e1⟩ := g0.uncons
  obtain ⟨v, r, w2, T2, rfl, ⟨a2, rfl, q2⟩, g0, e2⟩ := g0.uncons
  obtain ⟨v, r, w3, T3, rfl, ⟨a3, rfl, q3, l3⟩, g0, e3⟩ := g0.uncons
  obtain ⟨v, r, w4, T4, rfl, ⟨a4, rfl, q4⟩, g0, e4⟩ := g0.uncons
  obtain ⟨v, r, w5, T5, rfl, ⟨a5, rfl, q5⟩, g0, e5⟩ := g0.uncons
  obtain ⟨v, r, w6, T6, rfl, ⟨a6, rfl, q6⟩, g0, e6⟩ := g0.uncons
  obtain ⟨v, r, w7, T7, rfl, ⟨a7, rfl, q7⟩, g0, e7⟩ := g0.uncons
  obtain ⟨v, r, w8, T8, rfl, ⟨a8, rfl, q8⟩, g0, e8⟩ := g0.uncons
  obtain ⟨v, r, w9, T9, rfl, ⟨a9, rfl, q9⟩, g0, e9⟩ := g0.uncons
  obtain ⟨v, r, w10, T10, rfl, ⟨a10, rfl, q10⟩, g0, e10⟩ := g0.uncons
  obtain ⟨v, r, w11, T11, rfl, ⟨a11, rfl, q11⟩, g0, e11⟩ := g0.uncons
  obtain ⟨v, r, w12, T12, rfl, ⟨a12, rfl, q12⟩, g0, e12⟩ := g0.uncons
  obtain ⟨v, r, w13, T13, rfl, ⟨a13, rfl, q13⟩, g0, e13⟩ := g0.uncons
  obtain ⟨v, r, w14, T14, rfl, ⟨a14, rfl, q14⟩, g0, e14⟩ := g0.uncons
  obtain rfl := g0.nil_l
  exact ⟨⟨a0, a1, a2, a3.data.toList, a4, a5, a6, a7, a8, a9, a10, a11, a12, a13, a14⟩, .cons (cok_int q0) (.cons (cok_int q1) (.cons (cok_int q2) (.cons (cok_str q3) (.cons (cok_int q4) (.cons (cok_int q5) (.cons (cok_int q6) (.cons (cok_int q7) (.cons (cok_int q8) (.cons (cok_int q9) (.cons (cok_int q10) (.cons (cok_int q11) (.cons (cok_int q12) (.cons (cok_int q13) (.cons (cok_int q14) .nil)))))))))))))),
    ⟨wf_inR q0, wf_inR q1, wf_inR q2, wf_inR q5, wf_inR q6, by show a3.data.toList.length ≤ _; omega⟩, bulk_one _⟩
theorem sum_ge : ∀ (l : List Nat) (i : Nat) (hi : i < l.length), l[i] ≤ l.sum
  | x :: l, 0, _ => by simp
  | x :: l, i + 1, hi => by
    have := sum_ge l i (by simpa using hi)
    simp only [List.getElem_cons_succ, List.sum_cons]
    omega
theorem row_told {v : Value} {w : Nat} (h : LfOk enc Tryz.prog W held (.sl 48) v w) : ∃ xs : List Told, VR (base0 W) (.list 4 (xs : List (D.E 4))) v ∧ xs.length ≤ w ∧ ∀ t ∈ xs, okTold t := by
  obtain ⟨xs, g, h1, h2, h3⟩ := row_of (c := 4) (Q := fun (p : Told) n => (inR .i64 p.1 = true ∧ inR .i64 p.2 = true) ∧ 1 ≤ n) (by kernel_rfl) (by exact Nat.le_of_ble_eq_true (by kernel_rfl)) (fun n cs x h => open_told n cs x h) h
  have k1 := sum_le (f := fun _ => 1) xs g fun i hi => (h3 i hi).2
  rw [len_sum] at k1
  refine ⟨xs, h1, Nat.le_trans k1 h2, fun t ht => ?_⟩
  obtain ⟨i, hi, rfl⟩ := List.getElem_of_mem ht
  exact (h3 i hi).1
theorem row_rec {v : Value} {w : Nat} (hw : w ≤ 2000000) (h : LfOk enc Tryz.prog W held (.sl 80) v w) : ∃ xs : List Rec, VR (base0 W) (.list 5 (xs : List (D.E 5))) v ∧ xs.length ≤ w ∧ ∀ r ∈ xs, okRd r := by
  obtain ⟨xs, g, h1, h2, h3⟩ := row_of (c := 5) (Q := fun (y : Rec) n => (inR .i64 y.ino = true ∧ inR .i64 y.gen = true ∧ inR .i64 y.pos = true ∧ inR .i64 y.c0 = true ∧ inR .i64 y.c1 = true ∧ y.rule.length ≤ n) ∧ 1 ≤ n) (by kernel_rfl) (by exact Nat.le_of_ble_eq_true (by kernel_rfl)) (fun n cs x h => open_rec n cs x h) h
  have k1 := sum_le (f := fun _ => 1) xs g fun i hi => (h3 i hi).2
  rw [len_sum] at k1
  refine ⟨xs, h1, Nat.le_trans k1 h2, fun t ht => ?_⟩
  obtain ⟨i, hi, rfl⟩ := List.getElem_of_mem ht
  obtain ⟨⟨a1, a2, a3, a4, a5, a6⟩, _⟩ := h3 i hi
  have := sum_ge ((List.range xs.length).map g) i (by rw [List.length_map, List.length_range]; exact hi)
  simp only [List.getElem_map, List.getElem_range] at this
  exact ⟨a1, a2, a3, a4, a5, Nat.le_trans a6 (Nat.le_trans this (Nat.le_trans h2 hw))⟩
end
end Go.Proofs.YtjdehneddakpnaaGreatDoor.sx
namespace Go.Proofs.YtjdehneddakpnaaGreatDoor.join
open Go Go.ChangeShapes Go.WideShapes Go.ChangeAt Go.RowKit
def p1 (P : Program) (_f : FuncId) (_fn : Func) (s : ChangeSpec) (c : OpenClaim) : Bool := (c.wf (OpenSpec.ofChange s) && laidOutB P && mapsRowed P)
def p2 (P : Program) (_f : FuncId) (fn : Func) (s : ChangeSpec) (c : OpenClaim) : Bool := (fn.params.all (P.readableRec ·) && namedTie P c.named s.vars && (c.stops == []) && (P.stops == []) && (c.knobs == []) && (P.stopKnobs == []))
def p3 (P : Program) (f : FuncId) (_fn : Func) (_s : ChangeSpec) (c : OpenClaim) : Bool := (c.inPlace == P.inPlace f)
def p4 (P : Program) (f : FuncId) (_fn : Func) (_s : ChangeSpec) (c : OpenClaim) : Bool := (c.unfollowed == P.unfollowed f)
def p5 (P : Program) (f : FuncId) (_fn : Func) (_s : ChangeSpec) (c : OpenClaim) : Bool := (c.recurses == P.recurses f)
def p6 (P : Program) (f : FuncId) (_fn : Func) (_s : ChangeSpec) (c : OpenClaim) : Bool := (c.named == P.varsNamed f)
def p7 (P : Program) (_f : FuncId) (fn : Func) (s : ChangeSpec) (c : OpenClaim) : Bool := ((c.maps == (fn.params.toList ++ s.plain.varTypes P).any (P.mapsRec ·)) && (c.ifaces == (fn.params.toList ++ s.plain.varTypes P).any (P.ifacesRec ·)) && (c.mapsOut == P.mapsAmong fn.resultTypes.toList) && (c.loops == (fn.params.toList ++ s.plain.varTypes P).any (P.loopsFrom ·)) && (c.wideKeys == (fn.params.toList ++ s.plain.varTypes P ++ fn.resultTypes.toList).any (P.wideKeysFrom ·)) && s.vars.all (P.varReadable ·) && fn.resultTypes.all (fun t => P.readableRec t && decide (t < P.types.size)) && (c.ifacesOut == fn.resultTypes.toList.any (P.ifacesRec ·)) && (c.loopsOut == fn.resultTypes.toList.any (P.loopsFrom ·)))
def p8 (P : Program) (_f : FuncId) (_fn : Func) (_s : ChangeSpec) (c : OpenClaim) : Bool := (c.plainKeys == P.plainKeys)
def p9 (P : Program) (_f : FuncId) (_fn : Func) (_s : ChangeSpec) (c : OpenClaim) : Bool := (c.shortTexts.isNone && P.stopsHeard && P.mayEnter)
def p10 (P : Program) (_f : FuncId) (_fn : Func) (_s : ChangeSpec) (c : OpenClaim) : Bool := (c.lifted == P.liftsFinal)
def p11 (P : Program) (_f : FuncId) (fn : Func) (_s : ChangeSpec) (c : OpenClaim) : Bool := ((P.make == some c.make) && (c.kinds == (if c.domain.isEmpty then [] else fn.params.toList.map fun t => match P.underlying t with | some (.int k) => some k | _ => none)) && (c.pinned == c.pinnedBy))
def p12 (P : Program) (_f : FuncId) (fn : Func) (s : ChangeSpec) (c : OpenClaim) : Bool := ((c.veiled == (fn.params.toList ++ s.plain.varTypes P ++ fn.resultTypes.toList).any (P.veiledRec ·)) && c.veiledFits P fn.params.toList (fn.params.toList ++ s.plain.varTypes P ++ fn.resultTypes.toList))
theorem facts {P : Program} {f : FuncId} {fn : Func} {s : ChangeSpec} {c : OpenClaim} (h1 : p1 P f fn s c = true) (h2 : p2 P f fn s c = true) (h3 : p3 P f fn s c = true) (h4 : p4 P f fn s c = true) (h5 : p5 P f fn s c = true) (h6 : p6 P f fn s c = true) (h7 : p7 P f fn s c = true) (h8 : p8 P f fn s c = true) (h9 : p9 P f fn s c = true) (h10 : p10 P f fn s c = true) (h11 : p11 P f fn s c = true) (h12 : p12 P f fn s c = true) : joinedFacts P f fn s c = true := by
  unfold p1 at h1; unfold p2 at h2; unfold p3 at h3; unfold p4 at h4; unfold p5 at h5; unfold p6 at h6; unfold p7 at h7; unfold p8 at h8; unfold p9 at h9; unfold p10 at h10; unfold p11 at h11; unfold p12 at h12
  unfold joinedFacts
  simp only [Bool.and_eq_true, and_assoc] at h1 h2 h7 h9 h11 h12 ⊢
  exact ⟨h1.1, h1.2.1, h1.2.2, h2.1, h2.2.1, h2.2.2.1, h2.2.2.2.1, h2.2.2.2.2.1, h2.2.2.2.2.2, h3, h4, h5, h6, h7.1, h7.2.1, h7.2.2.1, h7.2.2.2.1, h7.2.2.2.2.1, h7.2.2.2.2.2.1, h7.2.2.2.2.2.2.1, h7.2.2.2.2.2.2.2.1, h7.2.2.2.2.2.2.2.2, h8, h9.1, h9.2.1, h9.2.2, h10, h11.1, h11.2.1, h11.2.2, h12.1, h12.2⟩
end Go.Proofs.YtjdehneddakpnaaGreatDoor.join
namespace Go.Proofs.YtjdehneddakpnaaGreatDoor.frame
open Go.ChangeShapes Go.WideShapes Go.ChangeAt Go.RowKit
section
variable {H : Type} {enc : TypeId × Value → H} {P : Program}
theorem stays_all {W W' : World} {sp : Nat → Bool} (hl : laidOutB P = true) :
    ∀ {ts : List TypeId} {vs : List Value} {ds : List (DataW H)} {ps : List MemPlace}, (∀ t ∈ ts, P.readableRec t = true ∧ t < P.types.size) →
      DataW.TrodAll enc P W 0 (fun _ => true) true ts vs ds ps → (∀ x ∈ ps, W.sameAt W' x) → (∀ x ∈ ps, sp x.block = true) → DataW.TrodAll enc P W' 0 sp true ts vs ds ps
  | [], _, _, _, _, h, _, _ => by
    obtain ⟨rfl, rfl, rfl⟩ := trodAll_nil h
    exact trodAll_mk0
  | t :: ts, _, _, _, hr, h, hx, hs => by
    obtain ⟨v, vs1, d, ds1, a, b, rfl, rfl, rfl, h1, h2⟩ := trodAll_cons h
    have ht := hr t (by simp)
    exact trodAll_cons_mk (WideElems.Trod_stays hl ht.1 ht.2 h1 (fun x hm => hx x (by simp [hm])) (fun x hm => hs x (by simp [hm])))
      (stays_all hl (fun t hm => hr t (by simp [hm])) h2 (fun x hm => hx x (by simp [hm])) (fun x hm => hs x (by simp [hm])))
theorem post_law {f : Func} {s : ChangeSpec} {apart fresh handsOn again : Bool} {W W' : World} {args : Array Value} {ds gs : List (DataW H)} {before : List MemPlace} {B : TypeId}
    (hW : DataW.Whole enc P f.params.toList s.vars apart W args.toList ds gs before) (hv : s.vars = [])
    (hs : s.fn H (ds ++ gs) = { results := [.lit (.bool true)], args := ds }) (hl : laidOutB P = true) (hr : ∀ t ∈ f.params.toList, P.readableRec t = true ∧ t < P.types.size)
    (hres : f.resultTypes = #[B]) (hB : P.underlying B = some .bool) (hb : Below W.heap.size W W') :
    s.post enc P f apart fresh handsOn again W args (.bool true) W' := by
  have hlt : ∀ p ∈ before, p.block < W.heap.size := fun p hp => hW.lt p hp
  have hold : ∀ p ∈ before, (fun b => decide (b < W.heap.size)) p.block = true := fun p hp => by simpa using hlt p hp
  have hsame : ∀ p ∈ before, W.sameAt W' p := fun p hp => hb.same (hlt p hp)
  have hW0 := hW
  obtain ⟨p, q, hA, hV, rfl, hz, hn⟩ := hW
  rw [hv] at hV
  obtain ⟨rfl, rfl⟩ := trodVars_none hV
  have hA' : ∀ sp : Nat → Bool, (∀ x ∈ p, sp x.block = true) → DataW.TrodAll enc P W' 0 sp true f.params.toList args.toList (s.fn H (ds ++ [])).args p := by
    intro sp hsp
    rw [hs]
    exact stays_all hl hr hA (fun x hx => hsame x (by simp [hx])) hsp
  have hV' : ∀ sp : Nat → Bool, DataW.TrodVars enc P W' sp s.vars (s.fn H (ds ++ [])).vars [] := by
    intro sp
    rw [hs, hv]
    rfl
  have hR : ∀ (b : Nat) (sp : Nat → Bool) (hd : Bool), DataW.TrodAll enc P W' b sp hd f.resultTypes.toList ((Value.bool true).resultList f.resultTypes.size) (s.fn H (ds ++ [])).results [] := by
    intro b sp hd
    rw [hs, hres]
    exact trodAll_cons_mk (shut_bool hB _) trodAll_mk0
  refine ⟨ds, [], p ++ [], [], p, [], hW0, hR _ _ _, hA' _ (fun x hx => hold x (by simp [hx])), hV' _, World.keptBut_mono (fun p hp => ⟨hp, ?_⟩) (hb.frame (· ∈ p ++ [])), fun _ => ?_⟩
  · simpa using hp
  · refine ⟨?_, _, _, ([] ++ p) ++ [], ⟨[] ++ p, [], trodAll_append (hA' _ (fun _ _ => rfl)) (hR _ _ _), hV' _, rfl, ?_, ?_⟩, ?_⟩
    · exact ok_one hres rfl (okWide_bool_mk hB _)
    · intro b off hp
      have hin : MemPlace.cell b off ∈ p ++ [] := by simpa using hp
      rw [hb.frozen (hlt _ hin)]
      exact hz b off hin
    · intro ha
      have := hn ha
      simpa using this
    · intro p hp _
      simpa using hp
end
end Go.Proofs.YtjdehneddakpnaaGreatDoor.frame
namespace Go.Proofs.YtjdehneddakpnaaGreatDoor.sx
open Go Go.RowKit
theorem runsOk : Ok runsC := by
  refine ⟨⟨_, _, (by kernel_rfl : Tryz.prog.funcs[11]? = some Tryz.f11), rfl⟩, fun y _ M A w hA hS _ R hR => ?_⟩
  obtain ⟨l⟩ := A
  obtain rfl : l = [] := hA.nil_l
  obtain ⟨_, ⟨a1, z1, w1, s1⟩, a2, z2, w2, s2⟩ : gwD w := hS.glo.1.2
  refine (ev.shellRuns w w1 w2 s1 s2).mono fun e w' ⟨he, hb⟩ => ?_
  subst he
  have hg : D.ng ≤ w'.heap.size ∧ D.gw w' := ⟨Nat.le_trans hS.glo.1.1 hb.size, D.gst w w' (fun c hc => hb.block c (Nat.lt_of_lt_of_le hc hS.glo.1.1)) hS.glo.1.2⟩
  refine hR M _ w' (.lit true) ⟨⟨fun b o h => (nomatch h), fun b b' o o' mi mi' h => (nomatch h), fun b o v h => ?_, fun b o mi h => (nomatch h), fun b c xs e mi h => (nomatch h), ⟨hg, fun b o mi h => (nomatch h)⟩⟩, fun _ _ => rfl, fun _ _ _ h => h, fun _ _ h => .inl h, hb.size, fun c hc _ => hb.block c hc, fun b o mi h => (nomatch h), fun b h => absurd rfl h, hb.os, hb.tape, hb.output, Nat.le_refl _⟩
  obtain ⟨h1, v', h2, h3⟩ := hS.seal_ b o v h
  refine ⟨h1, v', ?_, h3⟩
  have hlt : b < w.heap.size := by
    rcases Nat.lt_or_ge b w.heap.size with h | h
    · exact h
    · simp [World.cell?, Array.getElem?_eq_none h] at h2
  rw [hb.cell (p := ⟨b, o, none⟩) hlt]
  exact h2
end Go.Proofs.YtjdehneddakpnaaGreatDoor.sx
namespace Go.Proofs.YtjdehneddakpnaaGreatDoor.shl
open Go Go.ChangeShapes Go.WideShapes Go.ChangeAt Go.RowKit
set_option maxRecDepth 100000
theorem own : ownKnob Tryz.prog.godebug = none := by kernel_rfl
theorem star : "*" ++ "errors.errorString" = "*errors.errorString" := by decide
theorem rowE (u : TypeId) (h : Tryz.prog.typeName? 3 u = some "*errors.errorString") : u = 346 :=
  typeName_ptr_named (nm := "errors.errorString") (by rw [star]; kernel_rfl) (by kernel_rfl) (by decide) u (by rw [star]; exact h)
theorem gR : Tryz.prog.globalNamed "strconv.ErrRange" = some 3 := by kernel_rfl
theorem gS : Tryz.prog.globalNamed "strconv.ErrSyntax" = some 2 := by kernel_rfl
theorem gRT : (Tryz.prog.globals[3]?).map (·.type) = some 104 := by kernel_rfl
theorem gST : (Tryz.prog.globals[2]?).map (·.type) = some 104 := by kernel_rfl
theorem gTT : (Tryz.prog.globals[1]?).map (·.type) = some 256 := by kernel_rfl
theorem cE : Tryz.prog.cellsOf 348 = 1 := by kernel_rfl
theorem cS : Tryz.prog.cellsOf 9 = 1 := by kernel_rfl
theorem cU : Tryz.prog.cellsOf 132 = 1 := by kernel_rfl
theorem cT : Tryz.prog.cellsOf 256 = 20 := by kernel_rfl
theorem cell_of {P : Program} {W : World} {n : String} {g : Nat} {zero x : Array Value} {t : TypeId} (hsh : W.ShapedOpen P) (hn : P.globalNamed n = some g) (hl : g < P.globals.size)
    (hr : ((begin P (fun _ _ => 0) default).world.heap[g]?).bind Obj.row? = some (zero, t)) (hv : W.var? P n = some x) : W.heap[g]? = some (.cells x t) := by
  obtain ⟨cs, h, _⟩ := hsh.1 g zero t hl hr
  unfold World.var? at hv
  rw [hn, Option.bind_some, h] at hv
  cases hv
  exact h
theorem spot_of {W : World} {a : Addr} {v : Value} (h : W.cell? a = some v) : a.spot = none := by
  cases q : a.spot with
  | none => rfl
  | some k =>
    unfold World.cell? at h
    split at h
    · simp [q] at h
    · cases h
abbrev laidL : List (String × DataW Unit) := [("math/bits.deBruijn32tab", Rows.laid_math_bits_deBruijn32tab), ("math/bits.deBruijn64tab", Rows.laid_math_bits_deBruijn64tab), ("internal/strconv.uint64pow10", Rows.laid_internal_strconv_uint64pow10), ("strconv.ErrRange", Rows.laid_strconv_ErrRange), ("strconv.ErrSyntax", Rows.laid_strconv_ErrSyntax)]
theorem gw_of {W : World} (h : laidMetH Tryz.prog laidL W) (hsh : W.ShapedOpen Tryz.prog) : sx.D.ng ≤ W.heap.size ∧ sx.D.gw W := by
  have h1 : laidMet Tryz.prog laidL W := h
  have h2 := h1.tail.tail.tail
  obtain ⟨a2, _, v2, c2, _, _⟩ := laid_sentinel h2 gR gRT Tryz.underlying104 rowE Tryz.underlying346 Tryz.underlying348 rfl rfl Tryz.underlying9 cE cS
  obtain ⟨a1, _, v1, c1, _, _⟩ := laid_sentinel h2.tail gS gST Tryz.underlying104 rowE Tryz.underlying346 Tryz.underlying348 rfl rfl Tryz.underlying9 cE cS
  refine ⟨?_, ?_, ?_, ?_⟩
  · obtain ⟨o, o₀, e, _⟩ := hsh.2 6 (of_decide_eq_true (by kernel_rfl)) (of_decide_eq_true (by kernel_rfl))
    have h6 : 6 < W.heap.size := by
      rcases Nat.lt_or_ge 6 W.heap.size with h | h
      · exact h
      · rw [Array.getElem?_eq_none h] at e; cases e
    exact h6
  · exact Lib.tabIs_of_head (n := 20) sx.gTab gTT (by kernel_rfl : Tryz.prog.underlying 256 = some (.array 20 132)) (by kernel_rfl : Tryz.prog.underlying 132 = some (.int .u64)) cU cT h1.tail.tail
  · exact ⟨a1, _, cell_of (zero := #[.nilIface]) hsh gS (of_decide_eq_true (by kernel_rfl)) (by kernel_rfl) v1, spot_of c1⟩
  · exact ⟨a2, _, cell_of (zero := #[.nilIface]) hsh gR (of_decide_eq_true (by kernel_rfl)) (by kernel_rfl) v2, spot_of c2⟩
def litsOf (d : DataW Unit) : Array Value := match d with
  | .agg l => (l.map fun x => match x with
    | .lit (.int k z) => Value.int k z
    | _ => .bool false).toArray
  | _ => #[]
def putAll (h : Array Obj) (g : Nat) (c : Array Value) : Array Obj := h.modify g fun
  | .cells _ t frozen => .cells c t frozen
  | o => o
def textR : ByteArray := ⟨#[118, 97, 108, 117, 101, 32, 111, 117, 116, 32, 111, 102, 32, 114, 97, 110, 103, 101]⟩
def textS : ByteArray := ⟨#[105, 110, 118, 97, 108, 105, 100, 32, 115, 121, 110, 116, 97, 120]⟩
noncomputable def low : Nat := (World.holding Tryz.prog default ⟨#[], #[], []⟩).heap.size
/-- A world that holds what the rows list. -/
noncomputable def laidWorld (os : Os) : World :=
  let w0 := World.holding Tryz.prog os ⟨#[.cells #[.string textR] 348, .cells #[.string textS] 348], #[], []⟩
  { w0 with heap := putAll (putAll (putAll (putAll (putAll w0.heap 4 (litsOf Rows.laid_math_bits_deBruijn32tab)) 5 (litsOf Rows.laid_math_bits_deBruijn64tab)) 1 (litsOf Rows.laid_internal_strconv_uint64pow10)) 3 #[.iface 346 (.pointer (some ⟨low, 0, none⟩))]) 2 #[.iface 346 (.pointer (some ⟨low + 1, 0, none⟩))] }
theorem laid_met (os : Os) (args : Array Value) : laidMet Tryz.prog laidL ((laidWorld os).forCall (fun _ _ => 0) ⟨#[], args, []⟩).memory :=
  laidMet_of_run' 8 (by kernel_rfl) (by kernel_rfl)
theorem goes_none {P : Program} (h : (P.funcs.toList.all fun fn => !fn.goes) = true) (c : OpenClaim) (hs : c.start = .entering) : c.goesBy P = false := by
  have hf : ∀ fn ∈ P.funcs.toList, fn.goes = false := fun fn hm => by
    have := List.all_eq_true.1 h fn hm
    simpa using this
  have hg : ∀ f, P.goes f = false := fun f => by
    unfold Program.goes
    rw [Bool.or_eq_false_iff]
    constructor
    · rw [List.any_eq_false]
      intro g _
      cases hq : P.funcs[g]? with
      | none => simp
      | some fn =>
        have hm : fn ∈ P.funcs.toList := List.mem_of_getElem? (i := g) (by rw [Array.getElem?_toList]; exact hq)
        simp [hf fn hm]
    · have : P.funcs.any Func.goes = false := by
        rw [← Array.any_toList, List.any_eq_false]
        intro fn hm
        simp [hf fn hm]
      rw [this, Bool.and_false]
  unfold OpenClaim.goesBy Program.goesAt Program.goesFrom
  rw [hs]
  cases P.funcNamed c.func with
  | none => rfl
  | some f => simp [hg f]
theorem nogo : (Tryz.prog.funcs.toList.all fun fn => !fn.goes) = true := by kernel_rfl
theorem looks : true = Tryz.pinned.checked.prog.looks [] := by kernel_rfl
theorem main : Tryz.pinned.checked.prog.mainIs = some (true, "5f63d3edbe65eccd325fbde1bae161f277b2df37a97aa5e791d98137f1c0c4b4".toList) := by kernel_rfl
theorem bulk_part {H : Type} {d : DataW H} {l : List (DataW H)} (h : d ∈ l) : Rows.uptoBulk d ≤ Rows.uptoBulkAll l := by
  induction l with
  | nil => cases h
  | cons x r ih =>
    simp only [Rows.uptoBulkAll]
    cases List.mem_cons.1 h with
    | inl e => subst e; omega
    | inr e => have := ih e; omega
section
variable {H : Type} {enc : TypeId × Value → H} {W : World} {base : Nat} {v : Value} {d : DataW H} {p : List MemPlace}
theorem arg_int (hv : Value.okWide Tryz.prog W .any base 3 v) (h : DataW.Trod enc Tryz.prog W 0 (fun _ => true) true 3 v d p) : ∃ n : Int, sx.VR (sx.base0 W) (.int .i64 n) v ∧ sx.inR .i64 n = true := by
  obtain ⟨fuel, hf⟩ := h
  have hu : Tryz.prog.underlying 3 = some (.int .i64) := by kernel_rfl
  obtain ⟨n, rfl⟩ := okWide_int hu hv
  obtain ⟨n', hc, _, hw⟩ := DataW.trod_int hu hf
  simp only [Value.cells, List.cons.injEq, Value.int.injEq, true_and, and_true] at hc
  subst hc
  exact ⟨n, .int (sx.wf_inR hw), sx.wf_inR hw⟩
theorem arg_slice {e : TypeId} {t : TypeId} (ht : Tryz.prog.underlying t = some (.slice e)) (hl : sx.lvs Tryz.prog 8 t = some [.sl e]) (hv : Value.okWide Tryz.prog W .any base t v) (h : DataW.Trod enc Tryz.prog W 0 (fun _ => true) true t v d p) : sx.LfOk enc Tryz.prog W true (.sl e) v (Rows.uptoBulk d) := by
  obtain ⟨a0, len, cap, rfl⟩ := okWide_slice ht hv
  obtain ⟨fuel, hf⟩ := h
  have h0 := sx.lvs_ok 8 t [.sl e] _ _ _ hl hf
  obtain ⟨v, r, w, T, e', hs, _, he⟩ := h0.uncons
  obtain rfl : Value.slice a0 len cap = v := by simp [Value.cells] at e'; exact e'.1
  rcases hs with hs | ⟨a, l, c, n, h1, h2, h3, DD, h4, h5⟩
  · exact .inl hs
  · exact .inr ⟨a, l, c, n, h1, h2, h3, DD, Nat.le_trans h4 (by have he : w + T ≤ Rows.uptoBulk d := he; omega), h5⟩
end
end Go.Proofs.YtjdehneddakpnaaGreatDoor.shl
