/- Repeats are read back. -/
import Derived.Test.YtooockbfagkknaaGreatDoorPln
namespace Go.Proofs.YtooockbfagkknaaGreatDoor.syn
open Go.RowKit Go.Proofs.YtooockbfagkknaaGreatDoor.sl Go.Proofs.YtooockbfagkknaaGreatDoor.cls
section
variable {G : List Gt} {alt : Ps → Ps × List Nd}
def stripGo (b : List UInt8) (ds : List Int) : List UInt8 := ds.foldl (fun b d => if 48 < d ∨ b ≠ [] then b ++ [UInt8.ofNat d.toNat] else b) b
theorem digGo_seg (c : Int) (hc : c < 48 ∨ 57 < c) : ∀ (ds : List Int) (n i : Nat) (b : List UInt8), (∀ d ∈ ds, 48 ≤ d ∧ d ≤ 57) → Seg G i (ds ++ [c]) → ds.length ≤ n → digGo G n i b = (i + ds.length, stripGo b ds)
  | [], n, i, b, hd, h, hn => by
    have h' : Seg G i [c] := h
    obtain ⟨k1, k2, _⟩ := h'.head
    cases n with
    | zero => rfl
    | succ n => rw [digGo, if_neg (by rw [k2]; omega)]; rfl
  | d :: ds, n, i, b, hd, h, hn => by
    obtain ⟨m, rfl⟩ : ∃ m, n = m + 1 := ⟨n - 1, by simp at hn; omega⟩
    obtain ⟨k1, k2, _⟩ := Seg.head (x := ds ++ [c]) h
    have hh := hd d (by simp)
    rw [digGo, if_pos ⟨k1, by rw [k2]; exact hh.1, by rw [k2]; exact hh.2⟩, k2, digGo_seg c hc ds m (i + 1) _ (fun x hx => hd x (by simp [hx])) (Seg.tail h) (by simp at hn; omega)]
    rw [List.length_cons, show i + 1 + ds.length = i + (ds.length + 1) by omega]
    rfl
theorem dgs_dig (m : Nat) (h : m ≤ 30) : ∀ d ∈ dgs m, 48 ≤ d ∧ d ≤ 57 := by
  unfold dgs
  split
  · intro d hd
    simp at hd
    omega
  · intro d hd
    simp at hd
    omega
theorem dgs_pos (m : Nat) : 0 < (dgs m).length := by unfold dgs; split <;> simp
theorem val_all : ∀ m : Fin 31, valF (stripGo [] (dgs m)) = ((m.val : Int), true) := by decide +kernel
theorem less_all : ∀ m n : Fin 31, m.val ≤ n.val → lessB (stripGo [] (dgs n)) (stripGo [] (dgs m)) = false := by decide +kernel
theorem val_dgs (m : Nat) (h : m ≤ 30) : valF (stripGo [] (dgs m)) = ((m : Int), true) := val_all ⟨m, by omega⟩
theorem less_dgs (m n : Nat) (h : n ≤ 30) (hm : m ≤ n) : lessB (stripGo [] (dgs n)) (stripGo [] (dgs m)) = false := less_all ⟨m, by omega⟩ ⟨n, by omega⟩ hm
theorem digs_of {s : Ps} {c : Int} (hc : c < 48 ∨ 57 < c) {m : Nat} (hm : m ≤ 30) (hi : s.i ≤ G.length) (h : Seg G s.i (dgs m ++ [c])) : digS G s = adv s (dgs m).length ∧ digB G s = stripGo [] (dgs m) ∧ digK G s = true := by
  have hl := h.len hi
  have := digGo_seg (G := G) c hc (dgs m) (G.length - s.i) s.i [] (dgs_dig m hm) h (by simp at hl; omega)
  unfold digS digB digK
  rw [this]
  refine ⟨rfl, rfl, ?_⟩
  have := dgs_pos m
  simp
  omega
/-- The numbers of a repeat, as they are written. -/
theorem often_of {s : Ps} {m : Nat} {mx : Int} (_he : s.err = 0) (hi : s.i ≤ G.length) (hm : m ≤ 30) (hx : mx = -1 ∨ ((m : Int) ≤ mx ∧ mx ≤ 30)) {t : List Int}
    (ht : (mx = -1 ∧ t = [123] ++ dgs m ++ [44, 125]) ∨ (mx = (m : Int) ∧ t = [123] ++ dgs m ++ [125]) ∨ (0 ≤ mx ∧ t = [123] ++ dgs m ++ [44] ++ dgs mx.toNat ++ [125])) (h : Seg G s.i t) :
    oftenF G s = (adv s t.length, (m : Int), mx) := by
  have hn0 : s.next.i ≤ G.length := by
    have : 0 < t.length := by rcases ht with ⟨_, rfl⟩ | ⟨_, rfl⟩ | ⟨_, rfl⟩ <;> simp
    have := h.len hi
    show s.i + 1 ≤ _
    omega
  rcases ht with ⟨rfl, rfl⟩ | ⟨rfl, rfl⟩ | ⟨h0, rfl⟩
  · have h1 : Seg G s.next.i (dgs m ++ [44] ++ [125]) := Seg.tail (r := 123) (by simpa using h)
    obtain ⟨d1, d2, d3⟩ := digs_of (G := G) (c := 44) (by omega) hm hn0 h1.left
    have h2 : Seg G (adv s.next (dgs m).length).i (44 :: [125]) := by
      have := Seg.right (x := dgs m) (y := [44, 125]) (by simpa using h1)
      exact this
    have h3 : Seg G (adv s.next (dgs m).length).next.i [125] := h2.tail
    have hg := digGo_seg (G := G) 125 (by omega) [] (G.length - (adv s.next (dgs m).length).next.i) (adv s.next (dgs m).length).next.i [] (by simp) h3 (by simp)
    unfold oftenF
    simp only [d1, d2, d3]
    rw [if_pos ⟨trivial, by rw [h2.isR]; rfl⟩]
    have e1 : digS G (adv s.next (dgs m).length).next = (adv s.next (dgs m).length).next := by unfold digS; rw [hg]; rfl
    have e2 : digB G (adv s.next (dgs m).length).next = [] := by unfold digB; rw [hg]; rfl
    have e3 : digK G (adv s.next (dgs m).length).next = false := by unfold digK; rw [hg]; simp
    rw [e1, e2, e3]
    unfold often2
    simp only
    rw [if_neg (by decide), if_neg (by rw [h3.isR]; decide), if_neg (by simp), val_dgs m hm]
    simp only [Bool.not_false, if_true]
    rw [if_neg (by decide)]
    simp only [adv_next, adv_adv, List.length_append, List.length_cons, List.length_nil]
  · have h1 : Seg G s.next.i (dgs m ++ [125]) := Seg.tail (r := 123) (by simpa using h)
    obtain ⟨d1, d2, d3⟩ := digs_of (G := G) (c := 125) (by omega) hm hn0 h1
    have h2 : Seg G (adv s.next (dgs m).length).i [125] := h1.right
    unfold oftenF
    simp only [d1, d2, d3]
    rw [if_neg (by rw [h2.isR]; decide)]
    unfold often2
    simp only
    rw [if_neg (by decide), if_neg (by rw [h2.isR]; decide), if_neg (by rw [less_dgs m m hm (Nat.le_refl _)]; simp), if_neg (by simp [val_dgs m hm])]
    simp only [Bool.false_eq_true, if_false, val_dgs m hm]
    simp only [adv_next, adv_adv, List.length_append, List.length_cons, List.length_nil]
  · obtain ⟨n, rfl⟩ : ∃ n : Nat, mx = n := ⟨mx.toNat, by omega⟩
    have hmn : m ≤ n ∧ n ≤ 30 := by omega
    simp only [Int.toNat_natCast] at h ⊢
    have h1 : Seg G s.next.i (dgs m ++ [44] ++ (dgs n ++ [125])) := Seg.tail (r := 123) (by simpa using h)
    obtain ⟨d1, d2, d3⟩ := digs_of (G := G) (c := 44) (by omega) hm hn0 h1.left
    have h2 : Seg G (adv s.next (dgs m).length).i (44 :: (dgs n ++ [125])) := by
      have := Seg.right (x := dgs m) (y := 44 :: (dgs n ++ [125])) (by simpa using h1)
      exact this
    have h3 : Seg G (adv s.next (dgs m).length).next.i (dgs n ++ [125]) := h2.tail
    obtain ⟨f1, f2, f3⟩ := digs_of (G := G) (c := 125) (by omega) hmn.2 (by have := h2.head.1; exact this) h3
    have h4 : Seg G (adv (adv s.next (dgs m).length).next (dgs n).length).i [125] := h3.right
    unfold oftenF
    simp only [d1, d2, d3]
    rw [if_pos ⟨trivial, by rw [h2.isR]; rfl⟩, f1, f2, f3]
    unfold often2
    simp only
    rw [if_neg (by decide), if_neg (by rw [h4.isR]; decide), if_neg (by rw [less_dgs m n hmn.2 hmn.1]; simp)]
    simp only [Bool.not_true, Bool.false_eq_true, if_false, val_dgs m hm, val_dgs n hmn.2]
    rw [if_neg (by decide)]
    simp only [adv_next, adv_adv, List.length_append, List.length_cons, List.length_nil]
theorem rep2_of {u : Ps} {lz : Bool} (mn mx : Int) (x : List Nd) (he : u.err = 0) (h : Seg G u.i (if lz then [63] else [])) (hn : noRep G (adv u (if lz then [63] else ([] : List Int)).length)) :
    rep2 G u mn mx x = (adv u (if lz then [63] else ([] : List Int)).length, { nd 5 with mn := mn, mx := mx, lz := lz, kids := 1 } :: x) := by
  unfold rep2
  rw [if_neg (by rw [he]; simp)]
  cases lz
  · have : isR G u 63 = false := hn.2.2.1
    unfold skipS
    rw [this]
    rfl
  · have h' : Seg G u.i [63] := h
    have : isR G u 63 = true := by rw [h'.isR]; rfl
    unfold skipS
    rw [this]
    rfl
/-- A repeat. -/
theorem rep_of {s t : Ps} {x : List Nd} {y : Nd} (ha : atomF G alt s = (t, x)) (he : t.err = 0) (hi : t.i ≤ G.length) (h1 : 0 ≤ y.mn) (h2 : y.mn ≤ 30) (h3 : y.mx = -1 ∨ (y.mn ≤ y.mx ∧ y.mx ≤ 30)) (h : Seg G t.i (sizesR y)) (hn : noRep G (adv t (sizesR y).length)) :
    repF G alt s = (adv t (sizesR y).length, { nd 5 with mn := y.mn, mx := y.mx, lz := y.lz, kids := 1 } :: x) := by
  have key : ∀ (c : List Int) (lz : Bool) (mn mx : Int), Seg G t.i (c ++ (if lz then [63] else [])) → noRep G (adv t (c ++ (if lz then [63] else [])).length) →
      rep2 G (adv t c.length) mn mx x = (adv t (c ++ (if lz then [63] else [])).length, { nd 5 with mn := mn, mx := mx, lz := lz, kids := 1 } :: x) := by
    intro c lz mn mx h hn
    rw [List.length_append, ← adv_adv] at hn ⊢
    exact rep2_of mn mx x (by rw [adv_err]; exact he) h.right hn
  obtain ⟨m, hm⟩ : ∃ m : Nat, y.mn = m := ⟨y.mn.toNat, by omega⟩
  have hit : itR y.mn = dgs m := by unfold itR; rw [hm, if_neg (by omega)]; simp
  unfold sizesR at h hn ⊢
  unfold repF
  simp only [ha]
  rw [if_neg (by simpa using he)]
  by_cases c1 : y.mn = 0 ∧ y.mx = -1
  · rw [if_pos c1] at h hn ⊢
    have hh : Seg G t.i [42] := h.left
    rw [if_pos (by rw [hh.isR]; rfl), c1.1, c1.2]
    exact key [42] y.lz 0 (-1) h hn
  rw [if_neg c1] at h hn ⊢
  by_cases c2 : y.mn = 1 ∧ y.mx = -1
  · rw [if_pos c2] at h hn ⊢
    have hh : Seg G t.i [43] := h.left
    rw [if_neg (by rw [hh.isR]; decide), if_pos (by rw [hh.isR]; rfl), c2.1, c2.2]
    exact key [43] y.lz 1 (-1) h hn
  rw [if_neg c2] at h hn ⊢
  by_cases c3 : y.mn = 0 ∧ y.mx = 1
  · rw [if_pos c3] at h hn ⊢
    have hh : Seg G t.i [63] := h.left
    rw [if_neg (by rw [hh.isR]; decide), if_neg (by rw [hh.isR]; decide), if_pos (by rw [hh.isR]; rfl), c3.1, c3.2]
    exact key [63] y.lz 0 1 h hn
  rw [if_neg c3] at h hn ⊢
  have fin : ∀ (c : List Int), (∃ z, c = 123 :: z) → Seg G t.i (c ++ (if y.lz then [63] else [])) → noRep G (adv t (c ++ (if y.lz then [63] else [])).length) → oftenF G t = (adv t c.length, (m : Int), y.mx) →
      (if isR G t 42 = true then rep2 G t.next 0 (-1) x else if isR G t 43 = true then rep2 G t.next 1 (-1) x else if isR G t 63 = true then rep2 G t.next 0 1 x else if isR G t 123 = true then rep2 G (oftenF G t).1 (oftenF G t).2.1 (oftenF G t).2.2 x else (t, x)) =
        (adv t (c ++ (if y.lz then [63] else [])).length, { nd 5 with mn := y.mn, mx := y.mx, lz := y.lz, kids := 1 } :: x) := by
    rintro c ⟨z, rfl⟩ h hn ho
    have hh : Seg G t.i (123 :: z) := h.left
    rw [if_neg (by rw [hh.isR]; decide), if_neg (by rw [hh.isR]; decide), if_neg (by rw [hh.isR]; decide), if_pos (by rw [hh.isR]; rfl), ho, hm]
    exact key _ _ _ _ h hn
  by_cases c4 : y.mx = -1
  · rw [if_pos c4] at h hn ⊢
    rw [hit] at h hn ⊢
    exact fin _ ⟨_, rfl⟩ h hn (often_of he hi (by omega) (by omega) (.inl ⟨c4, rfl⟩) h.left)
  rw [if_neg c4] at h hn ⊢
  by_cases c5 : y.mn = y.mx
  · rw [if_pos c5] at h hn ⊢
    rw [hit] at h hn ⊢
    exact fin _ ⟨_, rfl⟩ h hn (often_of he hi (by omega) (by omega) (.inr (.inl ⟨by omega, rfl⟩)) h.left)
  · rw [if_neg c5] at h hn ⊢
    have hit2 : itR y.mx = dgs y.mx.toNat := by unfold itR; rw [if_neg (by omega)]
    rw [hit, hit2] at h hn ⊢
    exact fin _ ⟨_, rfl⟩ h hn (often_of he hi (by omega) (by omega) (.inr (.inr ⟨by omega, rfl⟩)) h.left)
end
end Go.Proofs.YtooockbfagkknaaGreatDoor.syn
/- Right nodes; how a text begins and ends. -/
namespace Go.Proofs.YtooockbfagkknaaGreatDoor.syn
open Go.RowKit Go.Proofs.YtooockbfagkknaaGreatDoor.sl Go.Proofs.YtooockbfagkknaaGreatDoor.cls
section
variable {G : List Gt} {alt : Ps → Ps × List Nd}
theorem Nd.ext' {x y : Nd} (h1 : x.op = y.op) (h2 : x.r = y.r) (h3 : x.mn = y.mn) (h4 : x.mx = y.mx) (h5 : x.lz = y.lz) (h6 : x.cap = y.cap) (h7 : x.kids = y.kids) : x = y := by
  cases x; cases y; simp only at h1 h2 h3 h4 h5 h6 h7; subst h1 h2 h3 h4 h5 h6 h7; rfl
/-- What a node is that may be. -/
inductive Sh (x : Nd) (k : Int) : Prop
  | leaf (h : x.op = 1 ∨ x.op = 7 ∨ x.op = 8) (e : x = nd x.op) (hk : k = 0)
  | cls (e : x = ndC x.r) (hg : x.r = makeF x.r) (hk : k = 0)
  | many (h : x.op = 3 ∨ x.op = 4) (e : x = { nd x.op with kids := x.kids }) (h2 : 2 ≤ x.kids) (hk : k = x.kids)
  | rep (e : x = { nd 5 with mn := x.mn, mx := x.mx, lz := x.lz, kids := 1 }) (h1 : 0 ≤ x.mn) (h2 : x.mn ≤ 30) (h3 : x.mx = -1 ∨ (x.mn ≤ x.mx ∧ x.mx ≤ 30)) (hk : k = 1)
  | grp (e : x = { nd 6 with cap := x.cap, kids := 1 }) (h1 : 1 ≤ x.cap) (h2 : x.cap ≤ 4) (hk : k = 1)
theorem shape_sh {x : Nd} {k : Int} (h : shapeR x = some k) : Sh x k := by
  unfold shapeR at h
  simp only at h
  by_cases h1 : x.op = 1 ∨ x.op = 7 ∨ x.op = 8
  · rw [if_pos h1] at h
    simp only [Bool.and_eq_true, decide_eq_true_eq] at h
    split at h
    · rename_i hc
      cases h
      exact .leaf h1 (Nd.ext' rfl (List.eq_nil_of_length_eq_zero hc.2) hc.1.1.1.1.2 hc.1.1.1.2 hc.1.1.2 hc.1.2 hc.1.1.1.1.1) rfl
    · cases h
  rw [if_neg h1] at h
  by_cases h2 : x.op = 2
  · rw [if_pos h2] at h
    split at h
    · rename_i hr
      simp only [Bool.and_eq_true, decide_eq_true_eq] at h
      split at h
      · rename_i hc
        cases h
        exact .cls (Nd.ext' h2 rfl hc.1.1.1.1.2 hc.1.1.1.2 hc.1.1.2 hc.1.2 hc.1.1.1.1.1) hr rfl
      · cases h
    · cases h
  rw [if_neg h2] at h
  by_cases h3 : x.op = 3 ∨ x.op = 4
  · rw [if_pos h3] at h
    split at h
    · cases h
    · rename_i hk
      simp only [Bool.and_eq_true, decide_eq_true_eq] at h
      split at h
      · rename_i hc
        cases h
        exact .many h3 (Nd.ext' rfl (List.eq_nil_of_length_eq_zero hc.2) hc.1.1.1.1.2 hc.1.1.1.2 hc.1.1.2 hc.1.2 rfl) (by omega) rfl
      · cases h
  rw [if_neg h3] at h
  by_cases h5 : x.op = 5
  · rw [if_pos h5] at h
    split at h
    · cases h
    · rename_i hk
      simp only [Bool.and_eq_true, decide_eq_true_eq] at h
      split at h
      · rename_i hc
        cases h
        exact .rep (Nd.ext' h5 (List.eq_nil_of_length_eq_zero hc.2) rfl rfl rfl hc.1.2 hc.1.1.1.1.1) (by omega) (by omega) (by omega) rfl
      · cases h
  rw [if_neg h5] at h
  by_cases h6 : x.op = 6
  · rw [if_pos h6] at h
    split at h
    · cases h
    · rename_i hk
      simp only [Bool.and_eq_true, decide_eq_true_eq] at h
      split at h
      · rename_i hc
        cases h
        exact .grp (Nd.ext' h6 (List.eq_nil_of_length_eq_zero hc.2) hc.1.1.1.1.2 hc.1.1.1.2 hc.1.1.2 rfl hc.1.1.1.1.1) (by omega) (by omega) rfl
      · cases h
  · rw [if_neg h6] at h; cases h
/-- How deep brackets stand in a text. -/
def kidD (L : List Nd) (f : Nat → Nat) (over : Int) (a : Nat) : Nat := if boundB over (L.getD a (nd 0)).op then f a + 1 else f a
def kidsD (L : List Nd) (n : Nat) (over : Int) (f : Nat → Nat) : Nat → Nat → Nat
  | 0, _ => 0
  | k + 1, a => max (kidD L f over a) (kidsD L n over f k (textR L n a).2)
def depR (L : List Nd) : Nat → Nat → Nat
  | 0, _ => 0
  | n + 1, a =>
    let x := L.getD a (nd 0)
    if x.op = 2 ∨ x.op = 7 ∨ x.op = 8 then 0
    else if x.op = 5 then kidD L (depR L n) 5 (a + 1)
    else if x.op = 6 then kidD L (depR L n) 6 (a + 1) + 1
    else if x.op = 3 ∨ x.op = 4 then kidsD L n x.op (depR L n) x.kids.toNat (a + 1)
    else 1
/-- How a text begins. -/
def HeadOk (t : List Int) : Prop := ∃ c y, t = c :: y ∧ c ≠ 42 ∧ c ≠ 43 ∧ c ≠ 63 ∧ c ≠ 123 ∧ c ≠ 124 ∧ c ≠ 41
theorem HeadOk.app {t u : List Int} (h : HeadOk t) : HeadOk (t ++ u) := by
  obtain ⟨c, y, rfl, h⟩ := h
  exact ⟨c, y ++ u, rfl, h⟩
theorem HeadOk.wrap {t : List Int} (b : Bool) (h : HeadOk t) : HeadOk (wrapR b t) := by
  unfold wrapR
  split
  · exact ⟨40, _, rfl, by decide, by decide, by decide, by decide, by decide, by decide⟩
  · exact h
theorem classed_head (_B : Bx) {l : List Rg} : HeadOk (classedR l) := by
  unfold classedR
  split
  · exact ⟨46, _, rfl, by decide, by decide, by decide, by decide, by decide, by decide⟩
  · split
    · exact ⟨91, _, rfl, by decide, by decide, by decide, by decide, by decide, by decide⟩
    · split
      · obtain ⟨c, y, e, h⟩ := shown_head (lo0 l)
        exact ⟨c, y, e, h.2.2.2⟩
      · exact ⟨91, _, rfl, by decide, by decide, by decide, by decide, by decide, by decide⟩
/-- A row of places that are walked. -/
theorem kids_end (L : List Nd) (n : Nat) (over : Int) (sep : List Int) (hn : ∀ a b, rWalk L n a = some b → (textR L n a).2 = b) : ∀ (k a b : Nat), rKids (rWalk L n) k a = some b → (kidsR (kidR L (textR L n) over) sep k a).2 = b
  | 0, a, b, h => by cases (show some a = some b from h); rfl
  | k + 1, a, b, h => by
    rw [rKids] at h
    split at h
    · cases h
    · rename_i c hc
      rw [kidsR]
      show (kidsR (kidR L (textR L n) over) sep k (textR L n a).2).2 = b
      rw [hn a c hc]
      exact kids_end L n over sep hn k c b h
theorem text_end (L : List Nd) : ∀ (n a b : Nat), rWalk L n a = some b → (textR L n a).2 = b
  | 0, a, b, h => nomatch h
  | n + 1, a, b, h => by
    rw [rWalk] at h
    split at h
    · cases h
    · rename_i hl
      split at h
      · cases h
      · rename_i k hk
        rw [textR]
        simp only
        have hs := shape_sh hk
        generalize L.getD a (nd 0) = x at hs ⊢
        have ih := text_end L n
        cases hs with
        | leaf ho e hk =>
          subst hk
          have hb : a + 1 = b := by simpa [rKids] using h
          rw [if_neg (by omega)]
          split
          · exact hb
          · split
            · exact hb
            · rw [if_neg (by omega), if_neg (by omega), if_neg (by omega)]
              exact hb
        | cls e hg hk =>
          subst hk
          have hb : a + 1 = b := by simpa [rKids] using h
          rw [if_pos (by rw [e]; rfl)]
          exact hb
        | many ho e h2 hk =>
          subst hk
          rw [if_neg (by omega), if_neg (by omega), if_neg (by omega), if_neg (by omega), if_neg (by omega), if_pos ho]
          obtain ⟨m, hm⟩ : ∃ m : Nat, x.kids = (m : Int) + 1 := ⟨(x.kids - 1).toNat, by omega⟩
          rw [hm] at h ⊢
          rw [show ((m : Int) + 1).toNat = m + 1 by omega] at h
          rw [show ((m : Int) + 1 - 1).toNat = m by omega]
          rw [rKids] at h
          split at h
          · cases h
          · rename_i c hc
            show (kidsR (kidR L (textR L n) x.op) _ m (textR L n (a + 1)).2).2 = b
            rw [ih _ _ hc]
            exact kids_end L n _ _ ih m c b h
        | rep e h1 h2 h3 hk =>
          subst hk
          have ho : x.op = 5 := by rw [e]; rfl
          rw [if_neg (by omega), if_neg (by omega), if_neg (by omega), if_pos ho]
          have h' : rKids (rWalk L n) 1 (a + 1) = some b := h
          rw [rKids] at h'
          split at h'
          · cases h'
          · rename_i c hc
            cases (show some c = some b from h')
            exact ih _ _ hc
        | grp e h1 h2 hk =>
          subst hk
          have ho : x.op = 6 := by rw [e]; rfl
          rw [if_neg (by omega), if_neg (by omega), if_neg (by omega), if_neg (by omega), if_pos ho]
          have h' : rKids (rWalk L n) 1 (a + 1) = some b := h
          rw [rKids] at h'
          split at h'
          · cases h'
          · rename_i c hc
            cases (show some c = some b from h')
            exact ih _ _ hc
theorem text_head (B : Bx) (L : List Nd) : ∀ (n a b : Nat), rWalk L n a = some b → HeadOk (textR L n a).1
  | 0, a, b, h => nomatch h
  | n + 1, a, b, h => by
    rw [rWalk] at h
    split at h
    · cases h
    · rename_i hl
      split at h
      · cases h
      · rename_i k hk
        rw [textR]
        simp only
        have hs := shape_sh hk
        generalize L.getD a (nd 0) = x at hs ⊢
        have ih := text_head B L n
        have hw : ∀ over c, rWalk L n (a + 1) = some c → HeadOk (kidR L (textR L n) over (a + 1)).1 := fun over c hc => (ih _ _ hc).wrap _
        cases hs with
        | leaf ho e hk =>
          rw [if_neg (by omega)]
          split
          · exact ⟨94, _, rfl, by decide, by decide, by decide, by decide, by decide, by decide⟩
          · split
            · exact ⟨36, _, rfl, by decide, by decide, by decide, by decide, by decide, by decide⟩
            · rw [if_neg (by omega), if_neg (by omega), if_neg (by omega)]
              exact ⟨40, _, rfl, by decide, by decide, by decide, by decide, by decide, by decide⟩
        | cls e hg hk =>
          rw [if_pos (by rw [e]; rfl)]
          exact classed_head B
        | many ho e h2 hk =>
          subst hk
          rw [if_neg (by omega), if_neg (by omega), if_neg (by omega), if_neg (by omega), if_neg (by omega), if_pos ho]
          obtain ⟨m, hm⟩ : ∃ m : Nat, x.kids = (m : Int) + 1 := ⟨(x.kids - 1).toNat, by omega⟩
          rw [hm] at h
          rw [show ((m : Int) + 1).toNat = m + 1 by omega] at h
          rw [rKids] at h
          split at h
          · cases h
          · rename_i c hc
            exact (hw _ _ hc).app
        | rep e h1 h2 h3 hk =>
          subst hk
          have ho : x.op = 5 := by rw [e]; rfl
          rw [if_neg (by omega), if_neg (by omega), if_neg (by omega), if_pos ho]
          have h' : rKids (rWalk L n) 1 (a + 1) = some b := h
          rw [rKids] at h'
          split at h'
          · cases h'
          · rename_i c hc
            exact (hw _ _ hc).app
        | grp e h1 h2 hk =>
          subst hk
          have ho : x.op = 6 := by rw [e]; rfl
          rw [if_neg (by omega), if_neg (by omega), if_neg (by omega), if_neg (by omega), if_pos ho]
          exact ⟨40, _, rfl, by decide, by decide, by decide, by decide, by decide, by decide⟩
end
end Go.Proofs.YtooockbfagkknaaGreatDoor.syn
/- Kids are read back. -/
namespace Go.Proofs.YtooockbfagkknaaGreatDoor.syn
open Go.RowKit Go.Proofs.YtooockbfagkknaaGreatDoor.sl Go.Proofs.YtooockbfagkknaaGreatDoor.cls
section
variable {G : List Gt} {alt : Ps → Ps × List Nd} {L : List Nd}
/-- Where a parser stands behind a text. -/
def endS (s : Ps) (k g : Nat) : Ps := { adv s k with groups := g }
/-- The nodes between two places. -/
def segN (L : List Nd) (a b : Nat) : List Nd := (L.drop a).take (b - a)
theorem segN_cons {a b : Nat} (h : a < L.length) (hb : a < b) : segN L a b = L.getD a (nd 0) :: segN L (a + 1) b := by
  unfold segN
  rw [List.drop_eq_getElem_cons h, List.getD_eq_getElem?_getD, List.getElem?_eq_getElem h, show b - a = (b - (a + 1)) + 1 by omega]
  rfl
theorem segN_same (a : Nat) : segN L a a = [] := by simp [segN]
theorem segN_app {a b c : Nat} (h1 : a ≤ b) (h2 : b ≤ c) : segN L a c = segN L a b ++ segN L b c := by
  unfold segN
  rw [show c - a = (b - a) + (c - b) by omega, List.take_add, List.drop_drop, show a + (b - a) = b by omega]
theorem joined_many (op : Int) (ps : List (List Nd)) (h : 2 ≤ ps.length) : joined op ps = { nd op with kids := ps.length } :: ps.flatten := by
  match ps, h with
  | [x], h => simp at h
  | x :: y :: ps, _ => rfl
/-- What a text is read as. -/
def TextOk (G : List Gt) (L : List Nd) (n : Nat) : Prop := ∀ (a b g' : Nat) (s : Ps), rWalk L n a = some b → capsSeg L a b s.groups = some g' → s.err = 0 → s.i ≤ G.length → s.opens + depR L n a ≤ 20 → Seg G s.i (textR L n a).1 →
  ((L.getD a (nd 0)).op ≠ 3 → (L.getD a (nd 0)).op ≠ 4 → (L.getD a (nd 0)).op ≠ 5 → atomF G (altF G (20 - s.opens)) s = (endS s (textR L n a).1.length g', segN L a b)) ∧
  ((L.getD a (nd 0)).op ≠ 3 → (L.getD a (nd 0)).op ≠ 4 → noRep G (endS s (textR L n a).1.length g') → repF G (altF G (20 - s.opens)) s = (endS s (textR L n a).1.length g', segN L a b)) ∧
  ((L.getD a (nd 0)).op ≠ 4 → stops G (endS s (textR L n a).1.length g') → catF G (altF G (20 - s.opens)) s = (endS s (textR L n a).1.length g', segN L a b)) ∧
  (stops G (endS s (textR L n a).1.length g') → isR G (endS s (textR L n a).1.length g') 124 = false → alt1 G (altF G (20 - s.opens)) s = (endS s (textR L n a).1.length g', segN L a b))
theorem HeadOk.at {s : Ps} {t : List Int} (h : HeadOk t) (hs : Seg G s.i t) : s.i < G.length ∧ isR G s 124 = false ∧ isR G s 41 = false ∧ noRep G s := by
  obtain ⟨c, y, rfl, h1, h2, h3, h4, h5, h6⟩ := h
  refine ⟨hs.head.1, ?_, ?_, ?_, ?_, ?_, ?_⟩ <;> rw [hs.isR] <;> simpa using by assumption
/-- What stands in brackets that don't count. -/
theorem wrap_atom {n a b g' : Nat} {s : Ps} (T : TextOk G L n) (hw : rWalk L n a = some b) (hc : capsSeg L a b s.groups = some g') (he : s.err = 0) (ho : s.opens + (depR L n a + 1) ≤ 20) (h : Seg G s.i ([40, 63, 58] ++ (textR L n a).1 ++ [41])) :
    atomF G (altF G (20 - s.opens)) s = (endS s ([40, 63, 58] ++ (textR L n a).1 ++ [41]).length g', segN L a b) := by
  have h0 : Seg G s.i (40 :: 63 :: 58 :: ((textR L n a).1 ++ [41])) := by simpa using h
  have h1 : Seg G s.next.i (63 :: 58 :: ((textR L n a).1 ++ [41])) := h0.tail
  have h2 : Seg G s.next.next.i (58 :: ((textR L n a).1 ++ [41])) := h1.tail
  have h3 : Seg G s.next.next.next.i ((textR L n a).1 ++ [41]) := h2.tail
  have h4 : Seg G (s.next.next.next.i + (textR L n a).1.length) [41] := h3.right
  obtain ⟨m, hm⟩ : ∃ m, 20 - s.opens = m + 1 := ⟨19 - s.opens, by omega⟩
  have hm2 : 20 - (s.opens + 1) = m := by omega
  obtain ⟨k1, k2, k3⟩ := h0.head
  have t4 := (T a b g' { s.next.next.next with opens := s.opens + 1 } hw hc he (by have := h2.head.1; exact this) (by show s.opens + 1 + _ ≤ 20; omega) h3.left).2.2.2
  have t5 := t4 (.inr ⟨_, List.getElem?_eq_getElem h4.head.1, .inr ⟨by
    have := h4.head.2.1
    unfold runeAt at this
    rw [List.getD_eq_getElem?_getD, List.getElem?_eq_getElem h4.head.1] at this
    exact this, by show 0 < s.opens + 1; omega⟩⟩) (by
    have : Seg G (endS { s.next.next.next with opens := s.opens + 1 } (textR L n a).1.length g').i [41] := h4
    rw [this.isR]; rfl)
  have t6 : altF G (20 - s.opens) { s.next.next.next with opens := s.opens + 1 } = (endS { s.next.next.next with opens := s.opens + 1 } (textR L n a).1.length g', segN L a b) := by
    rw [hm, altF, ← hm2]
    exact t5
  have h41 : isR G (endS { s.next.next.next with opens := s.opens + 1 } (textR L n a).1.length g') 41 = true := by
    have : Seg G (endS { s.next.next.next with opens := s.opens + 1 } (textR L n a).1.length g').i [41] := h4
    rw [this.isR]; rfl
  have hgf := group_free (alt := altF G (20 - s.opens)) (by rw [h1.isR]; rfl) (by rw [h2.isR]; rfl) (by omega) t6 he rfl h41
  unfold atomF
  simp only [k2]
  rw [if_neg (by rw [k3]; simp), if_pos trivial, hgf]
  refine Prod.ext ?_ rfl
  show ({ i := s.i + 1 + 1 + 1 + (textR L n a).1.length + 1, opens := s.opens, groups := g', err := s.err, wh := s.wh } : Ps) = { i := s.i + _, opens := s.opens, groups := g', err := s.err, wh := s.wh }
  simp only [List.length_append, List.length_cons, List.length_nil]
  rw [show s.i + 1 + 1 + 1 + (textR L n a).1.length + 1 = s.i + (0 + 1 + 1 + 1 + (textR L n a).1.length + (0 + 1)) by omega]
theorem endS_noRep {s t : Ps} (h : t.i = s.i) : noRep G t ↔ noRep G s := by unfold noRep; rw [isR_i h, isR_i h, isR_i h, isR_i h]
section
variable {n a b g' : Nat} {s : Ps}
/-- A kid of a repeat. -/
theorem kid_atom (T : TextOk G L n) (hw : rWalk L n a = some b) (hc : capsSeg L a b s.groups = some g') (he : s.err = 0) (hi : s.i ≤ G.length) (ho : s.opens + kidD L (depR L n) 5 a ≤ 20) (h : Seg G s.i (kidR L (textR L n) 5 a).1) :
    atomF G (altF G (20 - s.opens)) s = (endS s (kidR L (textR L n) 5 a).1.length g', segN L a b) := by
  unfold kidR wrapR at h ⊢
  unfold kidD at ho
  simp only at h ⊢
  cases hb : boundB 5 (L.getD a (nd 0)).op
  · rw [hb] at h ho
    have hb' := hb
    unfold boundB at hb'
    simp at hb'
    exact (T a b g' s hw hc he hi ho h).1 (by simpa using hb'.1.1) (by simpa using hb'.1.2) (by simpa using hb'.2)
  · rw [hb] at h ho
    exact wrap_atom T hw hc he ho h
/-- A kid of a row. -/
theorem kid_rep (T : TextOk G L n) (hw : rWalk L n a = some b) (hc : capsSeg L a b s.groups = some g') (he : s.err = 0) (hi : s.i ≤ G.length) (ho : s.opens + kidD L (depR L n) 3 a ≤ 20) (h : Seg G s.i (kidR L (textR L n) 3 a).1)
    (hn : noRep G (endS s (kidR L (textR L n) 3 a).1.length g')) : repF G (altF G (20 - s.opens)) s = (endS s (kidR L (textR L n) 3 a).1.length g', segN L a b) := by
  unfold kidR wrapR at h hn ⊢
  unfold kidD at ho
  simp only at h hn ⊢
  cases hb : boundB 3 (L.getD a (nd 0)).op
  · rw [hb] at h ho hn
    have hb' := hb
    unfold boundB at hb'
    simp at hb'
    exact (T a b g' s hw hc he hi ho h).2.1 (by simpa using hb'.1) (by simpa using hb'.2) hn
  · rw [hb] at h ho hn
    exact rep_none (wrap_atom T hw hc he ho h) he hn
theorem cat_of_rep {t : Ps} {x : List Nd} (h : repF G alt s = (t, x)) (he : s.err = 0) (hh : s.i < G.length ∧ isR G s 124 = false ∧ isR G s 41 = false ∧ noRep G s) (hs : stops G t) : catF G alt s = (t, x) :=
  cat_one hh.1 he hh.2.1 (by rw [hh.2.2.1]; simp) h hs
/-- A kid of a choice. -/
theorem kid_cat (B : Bx) (T : TextOk G L n) (hw : rWalk L n a = some b) (hc : capsSeg L a b s.groups = some g') (he : s.err = 0) (hi : s.i ≤ G.length) (ho : s.opens + kidD L (depR L n) 4 a ≤ 20) (h : Seg G s.i (kidR L (textR L n) 4 a).1)
    (hs : stops G (endS s (kidR L (textR L n) 4 a).1.length g')) : catF G (altF G (20 - s.opens)) s = (endS s (kidR L (textR L n) 4 a).1.length g', segN L a b) := by
  have hh := HeadOk.at (((text_head B L n a b hw).wrap (boundB 4 (L.getD a (nd 0)).op))) h
  unfold kidR wrapR at h hs ⊢
  unfold kidD at ho
  simp only at h hs ⊢
  cases hb : boundB 4 (L.getD a (nd 0)).op
  · rw [hb] at h ho hs
    have hb' := hb
    unfold boundB at hb'
    simp at hb'
    exact (T a b g' s hw hc he hi ho h).2.2.1 (by simpa using hb') hs
  · rw [hb] at h ho hs
    exact cat_of_rep (rep_none (wrap_atom T hw hc he ho h) he (stops_noRep hs)) he hh hs
end
theorem kids_len (B : Bx) (L : List Nd) (n : Nat) (over : Int) (sep : List Int) : ∀ (k a b : Nat), rKids (rWalk L n) k a = some b → k ≤ (kidsR (kidR L (textR L n) over) sep k a).1.length
  | 0, a, b, h => Nat.zero_le _
  | k + 1, a, b, h => by
    rw [rKids] at h
    split at h
    · cases h
    · rename_i c hc
      rw [kidsR]
      have h1 : (kidR L (textR L n) over a).2 = c := text_end L n a c hc
      obtain ⟨d, y, e, _⟩ := (text_head B L n a c hc).wrap (boundB over (L.getD a (nd 0)).op)
      have h2 := kids_len B L n over sep k c b h
      rw [h1]
      have h3 : (kidR L (textR L n) over a).1 = d :: y := e
      rw [h3]
      simp only [List.length_append, List.length_cons]
      omega
/-- The kids of a row. -/
theorem cat_kids (B : Bx) {n : Nat} (T : TextOk G L n) : ∀ (k a b g' N : Nat) (s : Ps) (ps : List (List Nd)), rKids (rWalk L n) k a = some b → a ≤ L.length → capsSeg L a b s.groups = some g' → s.err = 0 → s.i ≤ G.length → s.opens + kidsD L n 3 (depR L n) k a ≤ 20 →
    Seg G s.i (kidsR (kidR L (textR L n) 3) [] k a).1 → stops G (endS s (kidsR (kidR L (textR L n) 3) [] k a).1.length g') → k ≤ N →
    ∃ parts, parts.length = k ∧ parts.flatten = segN L a b ∧ catGo G (altF G (20 - s.opens)) N s ps = (endS s (kidsR (kidR L (textR L n) 3) [] k a).1.length g', ps ++ parts)
  | 0, a, b, g', N, s, ps, hw, ha, hc, he, hi, ho, h, hs, hN => by
    cases (show some a = some b from hw)
    rw [capsSeg_same] at hc
    cases hc
    have e : endS s (kidsR (kidR L (textR L n) 3) [] 0 a).1.length s.groups = s := rfl
    rw [e] at hs ⊢
    exact ⟨[], rfl, by rw [segN_same]; rfl, by rw [catGo_stop hs]; simp⟩
  | k + 1, a, b, g', N, s, ps, hw, ha, hc, he, hi, ho, h, hs, hN => by
    obtain ⟨M, rfl⟩ : ∃ M, N = M + 1 := ⟨N - 1, by omega⟩
    rw [rKids] at hw
    split at hw
    · cases hw
    · rename_i c hcw
      have hbd := rWalk_bd L n a c hcw
      have hbd2 := rKids_bd L (rWalk_bd L n) _ _ _ hbd.2 hw
      rw [capsSeg_add L s.groups (Nat.le_of_lt hbd.1) hbd2.1] at hc
      obtain ⟨g1, hc1, hc2⟩ := Option.bind_eq_some_iff.1 hc
      have h1 : (kidR L (textR L n) 3 a).2 = c := text_end L n a c hcw
      rw [kidsR] at h hs ⊢
      rw [h1] at h hs ⊢
      simp only [List.nil_append] at h hs ⊢
      rw [kidsD] at ho
      rw [text_end L n a c hcw] at ho
      have hd1 : s.opens + kidD L (depR L n) 3 a ≤ 20 := by omega
      have hd2 : s.opens + kidsD L n 3 (depR L n) k c ≤ 20 := by omega
      have hh := HeadOk.at ((text_head B L n a c hcw).wrap (boundB 3 (L.getD a (nd 0)).op)) h.left
      have hseg : Seg G (endS s (kidR L (textR L n) 3 a).1.length g1).i (kidsR (kidR L (textR L n) 3) [] k c).1 := h.right
      have hee : endS s ((kidR L (textR L n) 3 a).1 ++ (kidsR (kidR L (textR L n) 3) [] k c).1).length g' = endS (endS s (kidR L (textR L n) 3 a).1.length g1) (kidsR (kidR L (textR L n) 3) [] k c).1.length g' := by
        unfold endS adv
        simp only [List.length_append, ← Nat.add_assoc]
      rw [hee] at hs ⊢
      have hnr : noRep G (endS s (kidR L (textR L n) 3 a).1.length g1) := by
        cases k with
        | zero =>
          have := stops_noRep hs
          exact this
        | succ k =>
          rw [rKids] at hw
          split at hw
          · cases hw
          · rename_i d hdw
            rw [kidsR] at hseg
            simp only [List.nil_append] at hseg
            exact (HeadOk.at ((text_head B L n c d hdw).wrap (boundB 3 (L.getD c (nd 0)).op)) hseg.left).2.2.2
      have hr := kid_rep T hcw hc1 he hi hd1 h.left hnr
      have hil : (endS s (kidR L (textR L n) 3 a).1.length g1).i ≤ G.length := h.left.len hi
      obtain ⟨parts, p1, p2, p3⟩ := cat_kids B T k c b g' M (endS s (kidR L (textR L n) 3 a).1.length g1) (ps ++ [segN L a c]) hw hbd.2 hc2 he hil hd2 hseg hs (by omega)
      refine ⟨segN L a c :: parts, by simp [p1], by rw [List.flatten_cons, p2, ← segN_app (Nat.le_of_lt hbd.1) hbd2.1], ?_⟩
      rw [catGo, if_pos ⟨he, hh.1, hh.2.1, by rw [hh.2.2.1]; simp⟩, hr]
      refine Eq.trans p3 ?_
      simp
/-- The kids of a choice, behind the first one. -/
theorem alt_kids (B : Bx) {n : Nat} (T : TextOk G L n) : ∀ (k a b g' N : Nat) (s : Ps) (ps : List (List Nd)), rKids (rWalk L n) k a = some b → a ≤ L.length → capsSeg L a b s.groups = some g' → s.err = 0 → s.i ≤ G.length → s.opens + kidsD L n 4 (depR L n) k a ≤ 20 →
    Seg G s.i (kidsR (kidR L (textR L n) 4) [124] k a).1 → stops G (endS s (kidsR (kidR L (textR L n) 4) [124] k a).1.length g') → isR G (endS s (kidsR (kidR L (textR L n) 4) [124] k a).1.length g') 124 = false → k ≤ N →
    ∃ parts, parts.length = k ∧ parts.flatten = segN L a b ∧ altGo G (altF G (20 - s.opens)) N s ps = (endS s (kidsR (kidR L (textR L n) 4) [124] k a).1.length g', ps ++ parts)
  | 0, a, b, g', N, s, ps, hw, ha, hc, he, hi, ho, h, hs, h124, hN => by
    cases (show some a = some b from hw)
    rw [capsSeg_same] at hc
    cases hc
    have e : endS s (kidsR (kidR L (textR L n) 4) [124] 0 a).1.length s.groups = s := rfl
    rw [e] at hs h124 ⊢
    refine ⟨[], rfl, by rw [segN_same]; rfl, ?_⟩
    have : altGo G (altF G (20 - s.opens)) N s ps = (s, ps) := by
      cases N with
      | zero => rfl
      | succ N => rw [altGo, if_neg (by rw [h124]; simp)]
    rw [this]; simp
  | k + 1, a, b, g', N, s, ps, hw, ha, hc, he, hi, ho, h, hs, h124, hN => by
    obtain ⟨M, rfl⟩ : ∃ M, N = M + 1 := ⟨N - 1, by omega⟩
    rw [rKids] at hw
    split at hw
    · cases hw
    · rename_i c hcw
      have hbd := rWalk_bd L n a c hcw
      have hbd2 := rKids_bd L (rWalk_bd L n) _ _ _ hbd.2 hw
      rw [capsSeg_add L s.groups (Nat.le_of_lt hbd.1) hbd2.1] at hc
      obtain ⟨g1, hc1, hc2⟩ := Option.bind_eq_some_iff.1 hc
      have h1 : (kidR L (textR L n) 4 a).2 = c := text_end L n a c hcw
      rw [kidsR] at h hs h124 ⊢
      rw [h1] at h hs h124 ⊢
      rw [kidsD] at ho
      rw [text_end L n a c hcw] at ho
      have hd1 : s.opens + kidD L (depR L n) 4 a ≤ 20 := by omega
      have hd2 : s.opens + kidsD L n 4 (depR L n) k c ≤ 20 := by omega
      have h0 : Seg G s.i (124 :: ((kidR L (textR L n) 4 a).1 ++ (kidsR (kidR L (textR L n) 4) [124] k c).1)) := by simpa using h
      have hN1 : Seg G s.next.i ((kidR L (textR L n) 4 a).1 ++ (kidsR (kidR L (textR L n) 4) [124] k c).1) := h0.tail
      have hil : s.next.i ≤ G.length := by have := h0.head.1; exact this
      have hseg : Seg G (endS s.next (kidR L (textR L n) 4 a).1.length g1).i (kidsR (kidR L (textR L n) 4) [124] k c).1 := hN1.right
      have hee : endS s ([124] ++ (kidR L (textR L n) 4 a).1 ++ (kidsR (kidR L (textR L n) 4) [124] k c).1).length g' = endS (endS s.next (kidR L (textR L n) 4 a).1.length g1) (kidsR (kidR L (textR L n) 4) [124] k c).1.length g' := by
        unfold endS adv Ps.next
        simp only [List.length_append, List.length_cons, List.length_nil, ← Nat.add_assoc]
      rw [hee] at hs h124 ⊢
      have hst : stops G (endS s.next (kidR L (textR L n) 4 a).1.length g1) := by
        cases k with
        | zero => exact hs
        | succ k =>
          rw [kidsR] at hseg
          obtain ⟨q1, q2, _⟩ := Seg.head (x := (kidR L (textR L n) 4 c).1 ++ (kidsR (kidR L (textR L n) 4) [124] k (kidR L (textR L n) 4 c).2).1) (by simpa using hseg)
          refine .inr ⟨_, List.getElem?_eq_getElem q1, .inl ?_⟩
          unfold runeAt at q2
          rw [List.getD_eq_getElem?_getD, List.getElem?_eq_getElem q1] at q2
          exact q2
      have hr := kid_cat (s := s.next) B T hcw hc1 he hil hd1 hN1.left hst
      have hil2 : (endS s.next (kidR L (textR L n) 4 a).1.length g1).i ≤ G.length := hN1.left.len hil
      obtain ⟨parts, p1, p2, p3⟩ := alt_kids B T k c b g' M (endS s.next (kidR L (textR L n) 4 a).1.length g1) (ps ++ [segN L a c]) hw hbd.2 hc2 he hil2 hd2 hseg hs h124 (by omega)
      refine ⟨segN L a c :: parts, by simp [p1], by rw [List.flatten_cons, p2, ← segN_app (Nat.le_of_lt hbd.1) hbd2.1], ?_⟩
      have hr' : catF G (altF G (20 - s.opens)) s.next = (endS s.next (kidR L (textR L n) 4 a).1.length g1, segN L a c) := hr
      rw [altGo, if_pos ⟨he, by rw [h0.isR]; rfl⟩, hr']
      refine Eq.trans p3 ?_
      simp
end
end Go.Proofs.YtooockbfagkknaaGreatDoor.syn
/- Right nodes are read back from their text. -/
namespace Go.Proofs.YtooockbfagkknaaGreatDoor.syn
open Go.RowKit Go.Proofs.YtooockbfagkknaaGreatDoor.sl Go.Proofs.YtooockbfagkknaaGreatDoor.cls
section
variable {G : List Gt} {L : List Nd}
theorem kids_one (over : Int) (n a : Nat) : kidsD L n over (depR L n) 1 a = kidD L (depR L n) over a := by
  rw [kidsD, kidsD]
  exact Nat.max_eq_left (Nat.zero_le _)
theorem kidsD_ge {n : Nat} {over : Int} {f : Nat → Nat} {k a : Nat} : kidD L f over a ≤ kidsD L n over f (k + 1) a ∧ kidsD L n over f k (textR L n a).2 ≤ kidsD L n over f (k + 1) a := by
  rw [kidsD]
  omega
theorem text_ok (B : Bx) (G : List Gt) (L : List Nd) : ∀ n, TextOk G L n
  | 0 => fun a b g' s hw => nomatch hw
  | n + 1 => fun a b g' s hw hc he hi ho h => by
    have T := text_ok B G L n
    have hbd := rWalk_bd L (n + 1) a b hw
    have hhd := HeadOk.at (text_head B L (n + 1) a b hw) h
    rw [rWalk] at hw
    split at hw
    · cases hw
    rename_i hl
    split at hw
    · cases hw
    rename_i k hk
    have hs := shape_sh hk
    have hns := segN_cons (L := L) (show a < L.length by omega) hbd.1
    have hone := capsSeg_one L s.groups (show a < L.length by omega)
    have hb2 := rKids_bd L (rWalk_bd L n) _ _ _ (by omega) hw
    rw [capsSeg_add L s.groups (Nat.le_succ a) hb2.1, hone] at hc
    -- from an atom to all
    have up1 : ∀ (t : List Int), atomF G (altF G (20 - s.opens)) s = (endS s t.length g', segN L a b) → (noRep G (endS s t.length g') → repF G (altF G (20 - s.opens)) s = (endS s t.length g', segN L a b)) := fun t ha hn => rep_none ha he hn
    have up2 : ∀ (t : List Int), (noRep G (endS s t.length g') → repF G (altF G (20 - s.opens)) s = (endS s t.length g', segN L a b)) → (stops G (endS s t.length g') → catF G (altF G (20 - s.opens)) s = (endS s t.length g', segN L a b)) :=
      fun t hr hst => cat_of_rep (hr (stops_noRep hst)) he hhd hst
    have up3 : ∀ (t : List Int), (stops G (endS s t.length g') → catF G (altF G (20 - s.opens)) s = (endS s t.length g', segN L a b)) → (stops G (endS s t.length g') → isR G (endS s t.length g') 124 = false → alt1 G (altF G (20 - s.opens)) s = (endS s t.length g', segN L a b)) :=
      fun t hr hst hb => alt1_cat (hr hst) hb
    have all1 : ∀ (t : List Int), atomF G (altF G (20 - s.opens)) s = (endS s t.length g', segN L a b) → _ := fun t ha => And.intro ha (And.intro (up1 t ha) (And.intro (up2 t (up1 t ha)) (up3 t (up2 t (up1 t ha)))))
    rw [textR] at h ⊢
    rw [depR] at ho
    simp only at h ho ⊢
    generalize L.getD a (nd 0) = x at hs hns hc h ho ⊢
    have ea : endS s 1 s.groups = s.next := rfl
    cases hs with
    | leaf hop e hk0 =>
      subst hk0
      have hb1 : a + 1 = b := by simpa [rKids] using hw
      subst hb1
      rw [segN_same] at hns
      have h6 : x.op ≠ 6 := by omega
      rw [if_neg h6] at hc
      have hc' : g' = s.groups := by
        have : capsSeg L (a + 1) (a + 1) s.groups = some g' := hc
        rw [capsSeg_same] at this
        cases this; rfl
      subst hc'
      rw [if_neg (by omega)] at h ⊢
      rcases hop with hop | hop | hop
      · rw [if_neg (by omega), if_neg (by omega), if_neg (by omega), if_neg (by omega), if_neg (by omega)] at h ⊢
        rw [if_neg (by omega), if_neg (by omega), if_neg (by omega), if_neg (by omega)] at ho
        simp only at h ⊢
        have hat : atomF G (altF G (20 - s.opens)) s = (endS s [40, 63, 58, 41].length s.groups, segN L a (a + 1)) := by
          have h1 : Seg G s.next.i [63, 58, 41] := h.tail
          have h2 : Seg G s.next.next.i [58, 41] := h1.tail
          have h3 : Seg G s.next.next.next.i [41] := h2.tail
          obtain ⟨m, hm⟩ : ∃ m, 20 - s.opens = m + 1 := ⟨19 - s.opens, by omega⟩
          have hin : altF G (20 - s.opens) { s.next.next.next with opens := s.opens + 1 } = ({ s.next.next.next with opens := s.opens + 1 }, [nd 1]) := by
            rw [hm]
            refine alt_lets m [] he (by have := h2.head.1; exact this) (fun k r hk => by cases hk) (.inr ⟨_, List.getElem?_eq_getElem (by have := h3.head.1; exact this), .inr ⟨?_, by show 0 < s.opens + 1; omega⟩⟩) ?_
            · have q := h3.head
              have := q.2.1
              unfold runeAt at this
              rw [List.getD_eq_getElem?_getD, List.getElem?_eq_getElem q.1] at this
              exact this
            · have : Seg G (adv { s.next.next.next with opens := s.opens + 1 } ([] : List Int).length).i [41] := h3
              rw [this.isR]; rfl
          have h41 : isR G { s.next.next.next with opens := s.opens + 1 } 41 = true := by
            have : Seg G ({ s.next.next.next with opens := s.opens + 1 } : Ps).i [41] := h3
            rw [this.isR]; rfl
          have hgf := group_free (alt := altF G (20 - s.opens)) (by rw [h1.isR]; rfl) (by rw [h2.isR]; rfl) (by omega) hin he rfl h41
          obtain ⟨k1, k2, k3⟩ := h.head
          unfold atomF
          simp only [k2]
          rw [if_neg (by rw [k3]; simp), if_pos trivial, hgf, hns, e, hop]
          rfl
        have := all1 [40, 63, 58, 41] hat
        exact ⟨fun _ _ _ => this.1, fun _ _ => this.2.1, fun _ => this.2.2.1, this.2.2.2⟩
      · rw [if_pos hop] at h ⊢
        obtain ⟨k1, k2, k3⟩ := h.head
        have hat : atomF G (altF G (20 - s.opens)) s = (endS s [94].length s.groups, segN L a (a + 1)) := by
          unfold atomF
          simp only [k2]
          rw [if_neg (by rw [k3]; simp), if_neg (by decide), if_neg (by decide), if_neg (by decide), if_neg (by decide), if_pos trivial, hns, e, hop]
          rfl
        have := all1 [94] hat
        exact ⟨fun _ _ _ => this.1, fun _ _ => this.2.1, fun _ => this.2.2.1, this.2.2.2⟩
      · rw [if_neg (by omega), if_pos hop] at h ⊢
        obtain ⟨k1, k2, k3⟩ := h.head
        have hat : atomF G (altF G (20 - s.opens)) s = (endS s [36].length s.groups, segN L a (a + 1)) := by
          unfold atomF
          simp only [k2]
          rw [if_neg (by rw [k3]; simp), if_neg (by decide), if_neg (by decide), if_neg (by decide), if_neg (by decide), if_neg (by decide), if_pos trivial, hns, e, hop]
          rfl
        have := all1 [36] hat
        exact ⟨fun _ _ _ => this.1, fun _ _ => this.2.1, fun _ => this.2.2.1, this.2.2.2⟩
    | cls e hg hk0 =>
      subst hk0
      have hop : x.op = 2 := by rw [e]; rfl
      have hb1 : a + 1 = b := by simpa [rKids] using hw
      subst hb1
      rw [segN_same] at hns
      rw [if_neg (by omega)] at hc
      have hc' : g' = s.groups := by
        have : capsSeg L (a + 1) (a + 1) s.groups = some g' := hc
        rw [capsSeg_same] at this
        cases this; rfl
      subst hc'
      rw [if_pos hop] at h ⊢
      have hat : atomF G (altF G (20 - s.opens)) s = (endS s (classedR x.r).length s.groups, segN L a (a + 1)) := by
        rw [class_atom B he hi hg h, hns, e]
        rfl
      have := all1 _ hat
      exact ⟨fun _ _ _ => this.1, fun _ _ => this.2.1, fun _ => this.2.2.1, this.2.2.2⟩
    | rep e h1 h2 h3 hk0 =>
      subst hk0
      have hop : x.op = 5 := by rw [e]; rfl
      rw [if_neg (by omega)] at hc
      rw [if_neg (by omega), if_neg (by omega), if_neg (by omega), if_pos hop] at h ⊢
      rw [if_neg (by omega), if_pos hop] at ho
      have hw' : rKids (rWalk L n) 1 (a + 1) = some b := hw
      rw [rKids] at hw'
      split at hw'
      · cases hw'
      rename_i c hcw
      cases (show some c = some b from hw')
      have hat := kid_atom T hcw hc he hi ho h.left
      have hrep : noRep G (endS s ((kidR L (textR L n) 5 (a + 1)).1 ++ sizesR x).length g') → repF G (altF G (20 - s.opens)) s = (endS s ((kidR L (textR L n) 5 (a + 1)).1 ++ sizesR x).length g', segN L a b) := by
        intro hn
        have hee : endS s ((kidR L (textR L n) 5 (a + 1)).1 ++ sizesR x).length g' = adv (endS s (kidR L (textR L n) 5 (a + 1)).1.length g') (sizesR x).length := by
          unfold endS adv
          simp only [List.length_append, ← Nat.add_assoc]
        rw [hee] at hn ⊢
        have hr := rep_of hat he (h.left.len hi) h1 h2 h3 h.right hn
        rw [hr, hns, ← e]
      exact ⟨fun _ _ q => absurd hop q, fun _ _ => hrep, fun _ => up2 _ hrep, up3 _ (up2 _ hrep)⟩
    | grp e h1 h2 hk0 =>
      subst hk0
      have hop : x.op = 6 := by rw [e]; rfl
      rw [if_pos hop] at hc
      rw [if_neg (by omega), if_neg (by omega), if_neg (by omega), if_neg (by omega), if_pos hop] at h ⊢
      rw [if_neg (by omega), if_neg (by omega), if_pos hop] at ho
      have hcap : x.cap = (s.groups : Int) + 1 := by
        by_cases hq : x.cap = (s.groups : Int) + 1
        · exact hq
        · rw [if_neg hq] at hc; cases hc
      rw [if_pos hcap] at hc
      have hc2 : capsSeg L (a + 1) b (s.groups + 1) = some g' := hc
      have hw' : rKids (rWalk L n) 1 (a + 1) = some b := hw
      rw [rKids] at hw'
      split at hw'
      · cases hw'
      rename_i c hcw
      cases (show some c = some b from hw')
      have hbn : boundB 6 (L.getD (a + 1) (nd 0)).op = false := by unfold boundB; simp
      have hkd : kidD L (depR L n) 6 (a + 1) = depR L n (a + 1) := by unfold kidD; rw [hbn]; rfl
      have hkr : (kidR L (textR L n) 6 (a + 1)).1 = (textR L n (a + 1)).1 := by unfold kidR wrapR; rw [hbn]; rfl
      rw [hkd] at ho
      rw [hkr] at h ⊢
      have h0 : Seg G s.i (40 :: ((textR L n (a + 1)).1 ++ [41])) := by simpa using h
      have hh1 : Seg G s.next.i ((textR L n (a + 1)).1 ++ [41]) := h0.tail
      have hh2 : Seg G (s.next.i + (textR L n (a + 1)).1.length) [41] := hh1.right
      obtain ⟨k1, k2, k3⟩ := h0.head
      have t4 := (T (a + 1) b g' { s.next with opens := s.opens + 1, groups := s.groups + 1 } hcw hc2 he k1 (by show s.opens + 1 + _ ≤ 20; omega) hh1.left).2.2.2
      have hq := hh2.head
      have hq2 := hq.2.1
      unfold runeAt at hq2
      rw [List.getD_eq_getElem?_getD, List.getElem?_eq_getElem hq.1] at hq2
      have hS41 : Seg G (endS { s.next with opens := s.opens + 1, groups := s.groups + 1 } (textR L n (a + 1)).1.length g').i [41] := hh2
      have t5 := t4 (.inr ⟨_, List.getElem?_eq_getElem hq.1, .inr ⟨hq2, by show 0 < s.opens + 1; omega⟩⟩) (by rw [hS41.isR]; rfl)
      obtain ⟨m, hm⟩ : ∃ m, 20 - s.opens = m + 1 := ⟨19 - s.opens, by omega⟩
      have hm2 : 20 - (s.opens + 1) = m := by omega
      have t6 : altF G (20 - s.opens) { s.next with opens := s.opens + 1, groups := s.groups + 1 } = (endS { s.next with opens := s.opens + 1, groups := s.groups + 1 } (textR L n (a + 1)).1.length g', segN L (a + 1) b) := by
        rw [hm, altF, ← hm2]
        exact t5
      have h63 : isR G s.next 63 = false := by
        have := (HeadOk.at (text_head B L n (a + 1) b hcw) hh1.left).2.2.2
        exact this.2.2.1
      have hat : atomF G (altF G (20 - s.opens)) s = (endS s ([40] ++ (textR L n (a + 1)).1 ++ [41]).length g', segN L a b) := by
        unfold atomF
        simp only [k2]
        rw [if_neg (by rw [k3]; simp), if_pos trivial]
        unfold groupF
        simp only [h63]
        simp only [Bool.false_eq_true, if_false, false_and, true_and]
        rw [if_neg (show ¬ 20 ≤ s.next.opens by show ¬ 20 ≤ s.opens; omega), if_neg (show ¬ 4 ≤ s.next.groups by show ¬ 4 ≤ s.groups; omega)]
        have t7 : altF G (20 - s.opens) { { s.next with groups := s.next.groups + 1 } with opens := s.next.opens + 1 } = _ := t6
        rw [t7]
        simp only
        have h41 : isR G { endS { s.next with opens := s.opens + 1, groups := s.groups + 1 } (textR L n (a + 1)).1.length g' with opens := (endS { s.next with opens := s.opens + 1, groups := s.groups + 1 } (textR L n (a + 1)).1.length g').opens - 1 } 41 = true := by
          have : Seg G ({ endS { s.next with opens := s.opens + 1, groups := s.groups + 1 } (textR L n (a + 1)).1.length g' with opens := (endS { s.next with opens := s.opens + 1, groups := s.groups + 1 } (textR L n (a + 1)).1.length g').opens - 1 } : Ps).i [41] := hh2
          rw [this.isR]; rfl
        rw [if_neg (by rw [h41]; simp), if_pos (show (endS { s.next with opens := s.opens + 1, groups := s.groups + 1 } (textR L n (a + 1)).1.length g').err = 0 from he), hns, e, hcap]
        refine Prod.ext ?_ rfl
        show ({ i := s.i + 1 + (textR L n (a + 1)).1.length + 1, opens := s.opens + 1 - 1, groups := g', err := s.err, wh := s.wh } : Ps) = { i := s.i + _, opens := s.opens, groups := g', err := s.err, wh := s.wh }
        simp only [List.length_append, List.length_cons, List.length_nil, Nat.add_sub_cancel]
        rw [show s.i + 1 + (textR L n (a + 1)).1.length + 1 = s.i + (0 + 1 + (textR L n (a + 1)).1.length + (0 + 1)) by omega]
      have := all1 _ hat
      exact ⟨fun _ _ _ => this.1, fun _ _ => this.2.1, fun _ => this.2.2.1, this.2.2.2⟩
    | many hop e h2 hk0 =>
      subst hk0
      rw [if_neg (by omega)] at hc
      have hc2 : capsSeg L (a + 1) b s.groups = some g' := hc
      rw [if_neg (by omega), if_neg (by omega), if_neg (by omega), if_neg (by omega), if_neg (by omega), if_pos hop] at h ⊢
      rw [if_neg (by omega), if_neg (by omega), if_neg (by omega), if_pos hop] at ho
      obtain ⟨m, hm⟩ : ∃ m : Nat, x.kids = (m : Int) + 1 := ⟨(x.kids - 1).toNat, by omega⟩
      have hmn : x.kids.toNat = m + 1 := by omega
      have hmn2 : (x.kids - 1).toNat = m := by omega
      rw [hmn] at hw ho
      rw [hmn2] at h ⊢
      have hm1 : 1 ≤ m := by omega
      rcases hop with hop | hop
      · rw [hop] at h ho ⊢
        rw [if_neg (show ¬ (3 : Int) = 4 by decide)] at h ⊢
        have hte : (kidR L (textR L n) 3 (a + 1)).1 ++ (kidsR (kidR L (textR L n) 3) [] m (kidR L (textR L n) 3 (a + 1)).2).1 = (kidsR (kidR L (textR L n) 3) [] (m + 1) (a + 1)).1 := by
          rw [kidsR]; simp
        simp only [hte] at h ⊢
        have hkl := kids_len B L n 3 [] (m + 1) (a + 1) b hw
        have hlen := h.len hi
        have hcat : stops G (endS s (kidsR (kidR L (textR L n) 3) [] (m + 1) (a + 1)).1.length g') → catF G (altF G (20 - s.opens)) s = (endS s (kidsR (kidR L (textR L n) 3) [] (m + 1) (a + 1)).1.length g', segN L a b) := by
          intro hst
          obtain ⟨parts, p1, p2, p3⟩ := cat_kids B T (m + 1) (a + 1) b g' (G.length + 2 - s.i) s [] hw (by omega) hc2 he hi ho h hst (by omega)
          unfold catF
          simp only
          rw [p3, List.nil_append, joined_many 3 parts (by omega), p1, p2, hns, e, hop, hm]
          rfl
        exact ⟨fun q => absurd rfl q, fun q => absurd rfl q, fun _ => hcat, up3 _ hcat⟩
      · rw [hop] at h ho ⊢
        rw [if_pos rfl] at h ⊢
        rw [rKids] at hw
        split at hw
        · cases hw
        rename_i c hcw
        have hcb := rWalk_bd L n (a + 1) c hcw
        have hcb2 := rKids_bd L (rWalk_bd L n) _ _ _ hcb.2 hw
        rw [capsSeg_add L s.groups (Nat.le_of_lt hcb.1) hcb2.1] at hc2
        obtain ⟨g1, hc3, hc4⟩ := Option.bind_eq_some_iff.1 hc2
        have hk2 : (kidR L (textR L n) 4 (a + 1)).2 = c := text_end L n (a + 1) c hcw
        simp only [hk2] at h ⊢
        have hdd := kidsD_ge (L := L) (n := n) (over := 4) (f := depR L n) (k := m) (a := a + 1)
        rw [text_end L n (a + 1) c hcw] at hdd
        refine ⟨fun _ q => absurd rfl q, fun _ q => absurd rfl q, fun q => absurd rfl q, fun hst h124 => ?_⟩
        have hee : endS s ((kidR L (textR L n) 4 (a + 1)).1 ++ (kidsR (kidR L (textR L n) 4) [124] m c).1).length g' = endS (endS s (kidR L (textR L n) 4 (a + 1)).1.length g1) (kidsR (kidR L (textR L n) 4) [124] m c).1.length g' := by
          unfold endS adv
          simp only [List.length_append, ← Nat.add_assoc]
        rw [hee] at hst h124 ⊢
        have hseg : Seg G (endS s (kidR L (textR L n) 4 (a + 1)).1.length g1).i (kidsR (kidR L (textR L n) 4) [124] m c).1 := h.right
        have hil : (endS s (kidR L (textR L n) 4 (a + 1)).1.length g1).i ≤ G.length := h.left.len hi
        have hlen := hseg.len hil
        have hst1 : stops G (endS s (kidR L (textR L n) 4 (a + 1)).1.length g1) := by
          obtain ⟨m', rfl⟩ : ∃ m', m = m' + 1 := ⟨m - 1, by omega⟩
          rw [kidsR] at hseg
          obtain ⟨q1, q2, _⟩ := Seg.head (x := (kidR L (textR L n) 4 c).1 ++ (kidsR (kidR L (textR L n) 4) [124] m' (kidR L (textR L n) 4 c).2).1) (by simpa using hseg)
          refine .inr ⟨_, List.getElem?_eq_getElem q1, .inl ?_⟩
          unfold runeAt at q2
          rw [List.getD_eq_getElem?_getD, List.getElem?_eq_getElem q1] at q2
          exact q2
        have hr := kid_cat B T hcw hc3 he hi (by omega) h.left hst1
        have hkl := kids_len B L n 4 [124] m c b hw
        obtain ⟨parts, p1, p2, p3⟩ := alt_kids B T m c b g' (G.length + 2 - (endS s (kidR L (textR L n) 4 (a + 1)).1.length g1).i) (endS s (kidR L (textR L n) 4 (a + 1)).1.length g1) [segN L (a + 1) c] hw hcb.2 hc4 he hil (by show s.opens + _ ≤ 20; omega) hseg hst h124 (by omega)
        have p3' : altGo G (altF G (20 - s.opens)) (G.length + 2 - (endS s (kidR L (textR L n) 4 (a + 1)).1.length g1).i) (endS s (kidR L (textR L n) 4 (a + 1)).1.length g1) [segN L (a + 1) c] = _ := p3
        unfold alt1
        simp only [hr]
        rw [p3']
        simp only
        rw [joined_many 4 ([segN L (a + 1) c] ++ parts) (by simp; omega), hns, e, hop, hm]
        refine Prod.ext rfl ?_
        simp only [List.length_append, List.length_cons, List.length_nil, p1, List.flatten_append, List.flatten_cons, List.flatten_nil, List.append_nil, p2, ← segN_app (L := L) (Nat.le_of_lt hcb.1) hcb2.1]
        rw [show ((0 + 1 + m : Nat) : Int) = (m : Int) + 1 by omega]
/-- What right nodes are printed as is read as them. -/
theorem parse_print (B : Bx) (hG : Seg G 0 (printR L)) (hl : G.length = (printR L).length) (hr : rRight L = true) (hd : depR L 241 0 ≤ 20) : parseG G = (L, 0, 0) := by
  unfold rRight at hr
  simp only [Bool.and_eq_true, beq_iff_eq, Option.isSome_iff_exists] at hr
  obtain ⟨⟨_, hw⟩, g', hc⟩ := hr
  have hcs : capsSeg L 0 L.length ps0.groups = some g' := by
    show capsSeg L 0 L.length 0 = some g'
    simpa [capsSeg] using hc
  have t := (text_ok B G L 241 0 L.length g' ps0 hw hcs rfl (Nat.zero_le _) (by simpa [ps0] using hd) hG).2.2.2
  have hend : G[(endS ps0 (textR L 241 0).1.length g').i]? = none := by
    rw [List.getElem?_eq_none_iff]
    show G.length ≤ 0 + (printR L).length
    omega
  have t2 := t (.inl hend) (isR_none hend)
  have t3 : altF G 21 ps0 = (endS ps0 (textR L 241 0).1.length g', segN L 0 L.length) := by
    rw [altF]; exact t2
  have hs : segN L 0 L.length = L := by simp [segN]
  show fin G (altF G 21 ps0) = _
  rw [t3, fin_ok rfl (by show ¬ 0 + (printR L).length < G.length; omega), hs]
end
end Go.Proofs.YtooockbfagkknaaGreatDoor.syn
/- What is read is right. -/
namespace Go.Proofs.YtooockbfagkknaaGreatDoor.syn
open Go.RowKit Go.Proofs.YtooockbfagkknaaGreatDoor.sl Go.Proofs.YtooockbfagkknaaGreatDoor.cls
section
/-- A row of nodes, each with its kids, the groups counted on. -/
def RowP (P : Nat → List Nd → Nat → Prop) : List (List Nd) → Nat → Nat → Prop
  | [], g, g' => g = g'
  | p :: ps, g, g' => ∃ g1, P g p g1 ∧ RowP P ps g1 g'
/-- One node with its kids, no deeper than n. -/
def Is : Nat → Nat → List Nd → Nat → Prop
  | 0, _, _, _ => False
  | n + 1, g, ns, g' => ∃ (x : Nd) (parts : List (List Nd)) (k : Int), ns = x :: parts.flatten ∧ shapeR x = some k ∧ parts.length = k.toNat ∧ RowP (Is n) parts (if x.op = 6 then g + 1 else g) g' ∧ (x.op = 6 → x.cap = (g : Int) + 1)
theorem rowP_mono {P Q : Nat → List Nd → Nat → Prop} (h : ∀ g p g', P g p g' → Q g p g') : ∀ (ps : List (List Nd)) (g g' : Nat), RowP P ps g g' → RowP Q ps g g'
  | [], _, _, k => k
  | _p :: ps, _g, _g', ⟨g1, k1, k2⟩ => ⟨g1, h _ _ _ k1, rowP_mono h ps _ _ k2⟩
theorem rowP_snoc {P : Nat → List Nd → Nat → Prop} : ∀ (ps : List (List Nd)) (p : List Nd) (g g1 g' : Nat), RowP P ps g g1 → P g1 p g' → RowP P (ps ++ [p]) g g'
  | [], p, g, g1, g', h, k => by cases h; exact ⟨g', k, rfl⟩
  | q :: ps, p, g, g1, g', ⟨g2, h1, h2⟩, k => ⟨g2, h1, rowP_snoc ps p g2 g1 g' h2 k⟩
theorem Is.up : ∀ {n g : Nat} {ns : List Nd} {g' : Nat}, Is n g ns g' → Is (n + 1) g ns g'
  | 0, _, _, _, h => h.elim
  | _n + 1, _g, _ns, _g', ⟨x, parts, k, h1, h2, h3, h4, h5⟩ => ⟨x, parts, k, h1, h2, h3, rowP_mono (fun _ _ _ k => Is.up k) _ _ _ h4, h5⟩
theorem Is.mono {n m g : Nat} {ns : List Nd} {g' : Nat} (h : Is n g ns g') (hm : n ≤ m) : Is m g ns g' := by
  obtain ⟨d, rfl⟩ : ∃ d, m = n + d := ⟨m - n, by omega⟩
  induction d with
  | zero => exact h
  | succ d ih => exact (ih (by omega)).up
theorem is_leaf (op : Int) (h : op = 1 ∨ op = 7 ∨ op = 8) (n g : Nat) : Is (n + 1) g [nd op] g := by
  refine ⟨nd op, [], 0, rfl, ?_, rfl, ?_, ?_⟩
  · unfold shapeR nd
    simp only
    rw [if_pos h]
    simp
  · show (if op = 6 then g + 1 else g) = g
    rw [if_neg (by omega)]
  · intro (k : op = 6); omega
theorem is_cls {l : List Rg} (h : l = makeF l) (n g : Nat) : Is (n + 1) g [ndC l] g := by
  refine ⟨ndC l, [], 0, rfl, ?_, rfl, rfl, fun k => by cases k⟩
  unfold shapeR ndC nd
  simp only
  rw [if_neg (by decide), if_pos trivial, if_pos h]
  simp
theorem is_rep {n g g' : Nat} {x : List Nd} (mn mx : Int) (lz : Bool) (h1 : 0 ≤ mn) (h2 : mn ≤ 30) (h3 : mx = -1 ∨ (mn ≤ mx ∧ mx ≤ 30)) (h : Is n g x g') : Is (n + 1) g ({ nd 5 with mn := mn, mx := mx, lz := lz, kids := 1 } :: x) g' := by
  refine ⟨{ nd 5 with mn := mn, mx := mx, lz := lz, kids := 1 }, [x], 1, by simp, ?_, rfl, ⟨g', h, rfl⟩, fun k => by cases k⟩
  unfold shapeR nd
  simp only
  rw [if_neg (by decide), if_neg (by decide), if_neg (by decide), if_pos trivial, if_neg (by omega)]
  simp
theorem is_grp {n g g' : Nat} {x : List Nd} (hg : g < 4) (h : Is n (g + 1) x g') : Is (n + 1) g ({ nd 6 with cap := ((g + 1 : Nat) : Int), kids := 1 } :: x) g' := by
  refine ⟨{ nd 6 with cap := ((g + 1 : Nat) : Int), kids := 1 }, [x], 1, by simp, ?_, rfl, ⟨g', h, rfl⟩, fun _ => by show ((g + 1 : Nat) : Int) = _; omega⟩
  unfold shapeR nd
  simp only
  rw [if_neg (by decide), if_neg (by decide), if_neg (by decide), if_neg (by decide), if_pos trivial, if_neg (by omega)]
  simp
theorem is_joined {n g g' : Nat} (op : Int) (ho : op = 3 ∨ op = 4) {ps : List (List Nd)} (_hn : 0 < n) (h : RowP (Is n) ps g g') : Is (n + 1) g (joined op ps) g' := by
  match ps, h with
  | [], h => cases h; exact is_leaf 1 (.inl rfl) n g
  | [x], ⟨g1, h1, h2⟩ => cases h2; exact h1.up
  | x :: y :: ps, h =>
    refine ⟨{ nd op with kids := ((x :: y :: ps).length : Int) }, x :: y :: ps, ((x :: y :: ps).length : Int), rfl, ?_, by simp; omega, ?_, ?_⟩
    · unfold shapeR nd
      simp only
      rw [if_neg (by omega), if_neg (by omega), if_pos ho, if_neg (by simp; omega)]
      simp
    · show RowP (Is n) _ (if op = 6 then g + 1 else g) g'
      rw [if_neg (by omega)]
      exact h
    · intro (k : op = 6); omega
/-! ### What is walked -/
theorem rKids_mono {f h : Nat → Option Nat} (H : ∀ a b, f a = some b → h a = some b) : ∀ (k a b : Nat), rKids f k a = some b → rKids h k a = some b
  | 0, a, b, e => e
  | k + 1, a, b, e => by
    rw [rKids] at e ⊢
    split at e
    · cases e
    · rename_i c hc
      rw [H a c hc]
      exact rKids_mono H k c b e
theorem rWalk_up (L : List Nd) : ∀ (n a b : Nat), rWalk L n a = some b → rWalk L (n + 1) a = some b
  | 0, a, b, h => nomatch h
  | n + 1, a, b, h => by
    rw [rWalk] at h
    rw [rWalk]
    split
    · rename_i hl; rw [if_pos hl] at h; cases h
    · rename_i hl
      rw [if_neg hl] at h
      split at h
      · cases h
      · rename_i k hk
        exact rKids_mono (rWalk_up L n) _ _ _ h
theorem rWalk_mono (L : List Nd) {n m a b : Nat} (h : rWalk L n a = some b) (hm : n ≤ m) : rWalk L m a = some b := by
  obtain ⟨d, rfl⟩ : ∃ d, m = n + d := ⟨m - n, by omega⟩
  induction d with
  | zero => exact h
  | succ d ih => exact rWalk_up L _ _ _ (ih (by omega))
theorem row_walk {n : Nat} (H : ∀ (g : Nat) (ns : List Nd) (g' : Nat), Is n g ns g' → (∀ pre post, rWalk (pre ++ ns ++ post) n pre.length = some (pre.length + ns.length)) ∧ capsGo ns g = some g') :
    ∀ (ps : List (List Nd)) (g g' : Nat), RowP (Is n) ps g g' → (∀ pre post, rKids (rWalk (pre ++ ps.flatten ++ post) n) ps.length pre.length = some (pre.length + ps.flatten.length)) ∧ capsGo ps.flatten g = some g'
  | [], g, g', h => by cases h; exact ⟨fun pre post => by simp [rKids], rfl⟩
  | p :: ps, g, g', ⟨g1, h1, h2⟩ => by
    obtain ⟨a1, a2⟩ := H g p g1 h1
    obtain ⟨b1, b2⟩ := row_walk H ps g1 g' h2
    constructor
    · intro pre post
      have e1 : pre ++ (p :: ps).flatten ++ post = pre ++ p ++ (ps.flatten ++ post) := by simp
      have e2 : pre ++ (p :: ps).flatten ++ post = (pre ++ p) ++ ps.flatten ++ post := by simp
      rw [List.length_cons, rKids, e1, a1 pre (ps.flatten ++ post)]
      simp only
      rw [← e1, e2]
      have := b1 (pre ++ p) post
      rw [List.length_append] at this
      rw [this]
      simp
      omega
    · rw [List.flatten_cons, capsGo_app, a2]
      exact b2
theorem is_walk : ∀ (n g : Nat) (ns : List Nd) (g' : Nat), Is n g ns g' → (∀ pre post, rWalk (pre ++ ns ++ post) n pre.length = some (pre.length + ns.length)) ∧ capsGo ns g = some g'
  | 0, _, _, _, h => h.elim
  | n + 1, g, ns, g', ⟨x, parts, k, h1, h2, h3, h4, h5⟩ => by
    obtain ⟨a1, a2⟩ := row_walk (is_walk n) parts _ _ h4
    subst h1
    constructor
    · intro pre post
      have hget : (pre ++ x :: parts.flatten ++ post).getD pre.length (nd 0) = x := by
        rw [List.getD_eq_getElem?_getD, List.append_assoc, List.getElem?_append_right (Nat.le_refl _)]
        simp
      rw [rWalk, if_neg (by simp), hget, h2]
      simp only
      have e : pre ++ x :: parts.flatten ++ post = (pre ++ [x]) ++ parts.flatten ++ post := by simp
      rw [← h3, e]
      have := a1 (pre ++ [x]) post
      rw [List.length_append] at this
      simp only [List.length_cons, List.length_nil] at this
      rw [show pre.length + 1 = pre.length + (0 + 1) by omega, this]
      simp
      omega
    · rw [capsGo]
      by_cases h6 : x.op = 6
      · rw [if_pos h6, if_pos (h5 h6)]
        rw [if_pos h6] at a2
        exact a2
      · rw [if_neg h6]
        rw [if_neg h6] at a2
        exact a2
/-! ### What is parsed -/
section
variable {G : List Gt} {alt : Ps → Ps × List Nd}
/-- What is asked of ranges. -/
structure Ix : Prop where
  mk_ : ∀ l, makeF l = makeF (makeF l)
  nt : ∀ l, notF l = makeF (notF l)
def Strip (l : List UInt8) : Prop := (∀ c ∈ l, 48 ≤ c.toNat ∧ c.toNat ≤ 57) ∧ (∀ c r, l = c :: r → c.toNat ≠ 48)
theorem strip_go : ∀ (n i : Nat) (b : List UInt8), Strip b → Strip (digGo G n i b).2
  | 0, i, b, h => h
  | n + 1, i, b, h => by
    unfold digGo
    split
    · rename_i hc
      refine strip_go n (i + 1) _ ?_
      split
      · rename_i hd
        have e : (UInt8.ofNat (runeAt G i).toNat).toNat = (runeAt G i).toNat := by simp [UInt8.toNat_ofNat']; omega
        constructor
        · intro x hx
          rcases List.mem_append.1 hx with hx | hx
          · exact h.1 x hx
          · obtain rfl : x = UInt8.ofNat (runeAt G i).toNat := by simpa using hx
            rw [e]; omega
        · intro c r hcr
          cases b with
          | nil =>
            simp at hcr
            rw [← hcr.1, e]
            rcases hd with hd | hd
            · omega
            · exact absurd rfl hd
          | cons c0 b0 =>
            simp at hcr
            have := h.2 c0 b0 rfl
            rw [← hcr.1]; exact this
      · exact h
    · exact h
theorem strip_nil : Strip [] := ⟨by simp, by simp⟩
theorem less1 {c e : UInt8} (h : Op.bytesLess [c] [e] = false) : e.toNat ≤ c.toNat := by
  simp [Op.bytesLess] at h
  exact UInt8.le_iff_toNat_le.1 h
theorem less2 {c d e f : UInt8} (h : Op.bytesLess [c, d] [e, f] = false) : e.toNat < c.toNat ∨ (e.toNat = c.toNat ∧ f.toNat ≤ d.toNat) := by
  simp [Op.bytesLess] at h
  obtain ⟨h1, h2⟩ := h
  have h1' := UInt8.le_iff_toNat_le.1 h1
  by_cases hc : c = e
  · subst hc
    exact .inr ⟨rfl, UInt8.le_iff_toNat_le.1 (h2 rfl)⟩
  · exact .inl (by have : c.toNat ≠ e.toNat := fun k => hc (UInt8.toNat_inj.1 k); omega)
theorem val_le {a b : List UInt8} (ha : Strip a) (hb : Strip b) (h1 : (valF a).2 = true) (h2 : (valF b).2 = true) (hl : lessB a b = false) : (valF b).1 ≤ (valF a).1 := by
  unfold valF at h1 h2 ⊢
  split at h1
  · cases h1
  split at h2
  · cases h2
  rename_i q1 q2
  rw [if_neg q1, if_neg q2]
  unfold lessB at hl
  simp only [Bool.or_eq_false_iff, decide_eq_false_iff_not] at hl
  obtain ⟨l1, l2⟩ := hl
  match a, b, ha, hb, q1, q2, l1, l2 with
  | [], [], _, _, _, _, _, _ => decide
  | [c], [], ha, hb, _, _, _, _ =>
    have := ha.1 c (by simp)
    simp [valGo]; omega
  | [c, d], [], ha, hb, _, _, _, _ =>
    have := ha.1 c (by simp)
    have := ha.1 d (by simp)
    simp [valGo]; omega
  | [c, d], [e], ha, hb, _, _, _, _ =>
    have := ha.1 c (by simp)
    have := ha.1 d (by simp)
    have := ha.2 c [d] rfl
    have := hb.1 e (by simp)
    simp [valGo]; omega
  | [c], [e], ha, hb, _, _, _, l2 =>
    have h3 : Op.bytesLess [c] [e] = false := by simpa using l2
    have := less1 h3
    simp [valGo]; omega
  | [c, d], [e, f], ha, hb, _, _, _, l2 =>
    have h3 : Op.bytesLess [c, d] [e, f] = false := by simpa using l2
    have := less2 h3
    have := ha.1 d (by simp)
    have := hb.1 f (by simp)
    simp [valGo]; omega
  | [], [e], _, _, _, _, l1, _ => simp at l1
  | [], [e, f], _, _, _, _, l1, _ => simp at l1
  | [c], [e, f], _, _, _, _, l1, _ => simp at l1
  | _ :: _ :: _ :: _, _, _, _, q1, _, _, _ => simp at q1
  | _, _ :: _ :: _ :: _, _, _, _, q2, _, _ => simp at q2
theorem val_bd {a : List UInt8} (ha : Strip a) (h : (valF a).2 = true) : 0 ≤ (valF a).1 ∧ (valF a).1 ≤ 30 := by
  unfold valF at h ⊢
  split at h
  · cases h
  rename_i q
  rw [if_neg q]
  refine ⟨?_, by simpa using h⟩
  match a, ha, q with
  | [], _, _ => decide
  | [c], ha, _ =>
    have := ha.1 c (by simp)
    simp [valGo]; omega
  | [c, d], ha, _ =>
    have := ha.1 c (by simp)
    have := ha.1 d (by simp)
    simp [valGo]; omega
  | _ :: _ :: _ :: _, _, q => simp at q
theorem often2_bd {s : Ps} (frm : Nat) (m n : List UInt8) (ok en : Bool) (hm : Strip m) (hn : Strip n) (h : (often2 G frm s m n ok en).1.err = 0) (he : s.err = 0) :
    0 ≤ (often2 G frm s m n ok en).2.1 ∧ (often2 G frm s m n ok en).2.1 ≤ 30 ∧ ((often2 G frm s m n ok en).2.2 = -1 ∨ ((often2 G frm s m n ok en).2.1 ≤ (often2 G frm s m n ok en).2.2 ∧ (often2 G frm s m n ok en).2.2 ≤ 30)) := by
  unfold often2 at h ⊢
  simp only at h ⊢
  by_cases c1 : ok = false
  · rw [if_pos c1, wrong_of he] at h; cases h
  rw [if_neg c1] at h ⊢
  by_cases c2 : isR G s 125 = false
  · rw [if_pos c2, wrong_of he] at h; cases h
  rw [if_neg c2] at h ⊢
  by_cases c3 : en = false ∧ lessB n m = true
  · rw [if_pos c3, wrong_of (s := s.next) he] at h; cases h
  rw [if_neg c3] at h ⊢
  by_cases c4 : (valF m).2 = false ∨ (valF (if en = true then [] else n)).2 = false
  · rw [if_pos c4, wrong_of (s := s.next) he] at h; cases h
  rw [if_neg c4]
  have c5 : (valF m).2 = true := by simpa using fun k => c4 (.inl k)
  have b1 := val_bd hm c5
  refine ⟨b1.1, b1.2, ?_⟩
  cases en
  · right
    simp only [Bool.false_eq_true, if_false] at c4 ⊢
    have c6 : (valF n).2 = true := by simpa using fun k => c4 (.inr k)
    exact ⟨val_le hn hm c6 c5 (by simpa using c3), (val_bd hn c6).2⟩
  · left; rfl
theorem often_bd {s : Ps} (he : s.err = 0) (h : (oftenF G s).1.err = 0) : 0 ≤ (oftenF G s).2.1 ∧ (oftenF G s).2.1 ≤ 30 ∧ ((oftenF G s).2.2 = -1 ∨ ((oftenF G s).2.1 ≤ (oftenF G s).2.2 ∧ (oftenF G s).2.2 ≤ 30)) := by
  unfold oftenF at h ⊢
  simp only at h ⊢
  split
  · rename_i hc
    rw [if_pos hc] at h
    exact often2_bd _ _ _ _ _ (strip_go _ _ _ strip_nil) (strip_go _ _ _ strip_nil) h he
  · rename_i hc
    rw [if_neg hc] at h
    exact often2_bd _ _ _ _ _ (strip_go _ _ _ strip_nil) (strip_go _ _ _ strip_nil) h he
/-- What a parser that met nothing wrong answers. -/
def Ok (n : Nat) (g : Nat) (a : Ps × List Nd) : Prop := a.1.err = 0 → Is n g a.2 a.1.groups
def AltI (G : List Gt) (m o : Nat) (alt : Ps → Ps × List Nd) : Prop := o ≤ 20 → ∀ s, s.opens = o → s.err = 0 → s.i ≤ G.length → s.groups ≤ 4 → Ok m s.groups (alt s)
theorem wrong_ne {s : Ps} (k : Nat) (e : Int) (he : e ≠ 0) : (s.wrong G k e).err ≠ 0 := by
  unfold Ps.wrong
  split
  · exact he
  · assumption
theorem skip_groups (s : Ps) (r : Int) : (skipS G s r).groups = s.groups := by unfold skipS; split <;> rfl
theorem sign_groups (s : Ps) : (signF G s).1.groups = s.groups := by
  unfold signF
  simp only
  split
  · simp
  · split
    · simp
    · rcases len4_r (G := G) s.next.next s.i (runeAt G s.next.i) with e | e
      · rw [e]; rfl
      · rw [e]; simp
theorem part_groups (s : Ps) : (partF G s).1.groups = s.groups := by
  unfold partF
  simp only
  split
  · simp
  · split
    · exact sign_groups s
    · split <;> rfl
theorem item_groups (s : Ps) : (itemF G s).1.groups = s.groups := by
  have h1 := part_groups (G := G) s
  unfold itemF
  simp only
  split
  · exact h1
  · split
    · simp [h1]
    · split
      · unfold item2
        simp only
        have h2 := part_groups (G := G) (partF G s).1.next
        have h3 : (if (partF G s).1.next.i < G.length then partF G (partF G s).1.next else ((partF G s).1.next, [], false)).1.groups = s.groups := by
          split
          · rw [h2]; exact h1
          · exact h1
        generalize (if (partF G s).1.next.i < G.length then partF G (partF G s).1.next else ((partF G s).1.next, [], false)) = b at h3 ⊢
        split <;> split <;> simp_all
      · exact h1
theorem clsGo_groups (frm : Nat) : ∀ (n : Nat) (s : Ps) (l : List Rg) (b : Bool), (clsGo G frm n s l b).1.groups = s.groups
  | 0, s, l, b => rfl
  | n + 1, s, l, b => by
    unfold clsGo
    split
    · split
      · simp
      · rw [clsGo_groups frm n, item_groups]
    · rfl
theorem clsGo_flag (frm : Nat) : ∀ (n : Nat) (s : Ps) (l : List Rg) (b : Bool), (clsGo G frm n s l b).2.2.2 = true → (clsGo G frm n s l b).1.err ≠ 0
  | 0, s, l, b, h => by cases h
  | n + 1, s, l, b, h => by
    unfold clsGo at h ⊢
    split at h
    · rename_i hc
      rw [if_pos hc]
      split at h
      · rename_i hl
        rw [if_pos hl]
        exact wrong_ne _ _ (by decide)
      · rename_i hl
        rw [if_neg hl]
        exact clsGo_flag frm n _ _ _ h
    · cases h
theorem cls_ok (I : Ix) {s : Ps} (n : Nat) : Ok (n + 1) s.groups (clsF G s) := by
  unfold clsF Ok
  simp only
  have hg := clsGo_groups (G := G) s.i (G.length + 2 - (skipS G s.next 94).i) (skipS G s.next 94) [] true
  rw [skip_groups] at hg
  have hf := clsGo_flag (G := G) s.i (G.length + 2 - (skipS G s.next 94).i) (skipS G s.next 94) [] true
  generalize clsGo G s.i (G.length + 2 - (skipS G s.next 94).i) (skipS G s.next 94) [] true = c at hg hf ⊢
  split
  · rename_i h4
    intro h; exact absurd h (hf h4)
  · split
    · rename_i h; intro k; exact absurd k h
    · split
      · intro h; exact absurd h (wrong_ne _ _ (by decide))
      · intro _
        have e : c.1.next.groups = s.groups := hg
        simp only [e]
        refine is_cls ?_ n s.groups
        split
        · exact I.nt _
        · exact I.mk_ _
theorem group_ok {m o : Nat} (A : AltI G m (o + 1) alt) (_hm : 0 < m) {s : Ps} (ho : s.opens = o) (he : s.err = 0) (hl : s.i < G.length) (hg : s.groups ≤ 4) : Ok (m + 1) s.groups (groupF G alt s) := by
  unfold groupF Ok
  simp only
  by_cases c1 : isR G s.next 63 = true
  · simp only [c1, if_true]
    by_cases c2 : isR G s.next.next 58 = false
    · rw [if_pos ⟨trivial, c2⟩]
      intro h; exact absurd h (wrong_ne _ _ (by decide))
    rw [if_neg (fun k => c2 k.2)]
    have l1 := isR_lt' (show isR G s.next.next 58 = true by simpa using c2)
    by_cases c3 : 20 ≤ s.next.next.next.opens
    · rw [if_pos c3]
      intro h; exact absurd h (wrong_ne _ _ (by decide))
    rw [if_neg c3, if_neg (show ¬ (true = false ∧ 4 ≤ s.next.next.next.groups) by simp)]
    split
    · intro h; exact absurd h (wrong_ne _ _ (by decide))
    · rename_i c4
      intro h
      have h0 : (alt { s.next.next.next with opens := s.next.next.next.opens + 1 }).1.err = 0 := by
        split at h
        · rename_i q; exact q
        · exact h
      have := A (by simp at c3; omega) { s.next.next.next with opens := s.next.next.next.opens + 1 } (by show s.opens + 1 = _; omega) he l1 hg h0
      rw [if_pos (show (alt { s.next.next.next with opens := s.next.next.next.opens + 1 }).1.err = 0 from h0)]
      exact this.up
  · have c1' : isR G s.next 63 = false := by simpa using c1
    simp only [c1', Bool.false_eq_true, if_false, false_and]
    by_cases c3 : 20 ≤ s.next.opens
    · rw [if_pos c3]
      intro h; exact absurd h (wrong_ne _ _ (by decide))
    rw [if_neg c3]
    by_cases c2 : 4 ≤ s.next.groups
    · rw [if_pos (show True ∧ 4 ≤ s.next.groups from ⟨trivial, c2⟩)]
      intro h; exact absurd h (wrong_ne _ _ (by decide))
    rw [if_neg (show ¬ (True ∧ 4 ≤ s.next.groups) from fun k => c2 k.2)]
    have c2' : s.groups < 4 := by simp at c2; omega
    split
    · intro h; exact absurd h (wrong_ne _ _ (by decide))
    · rename_i c4
      intro h
      have h0 : (alt ({ i := s.next.i, opens := s.next.opens + 1, groups := s.next.groups + 1, err := s.next.err, wh := s.next.wh } : Ps)).1.err = 0 := by
        split at h
        · rename_i q; exact q
        · exact h
      have hA := A (by simp at c3; omega) ({ i := s.next.i, opens := s.next.opens + 1, groups := s.next.groups + 1, err := s.next.err, wh := s.next.wh } : Ps) (by show s.opens + 1 = _; omega) he hl (by show s.groups + 1 ≤ 4; omega) h0
      rw [if_pos h0]
      exact is_grp c2' hA
theorem sign_fix (I : Ix) {s : Ps} : (signF G s).1.err = 0 → (signF G s).2.1 = makeF (signF G s).2.1 := by
  unfold signF
  simp only
  split
  · exact fun h => absurd h (wrong_ne _ _ (by decide))
  · split
    · exact fun h => absurd h (wrong_ne _ _ (by decide))
    · unfold sign1
      repeat' split
      all_goals first
        | exact fun _ => I.mk_ _
        | exact fun h => absurd h (wrong_ne _ _ (by decide))
theorem atom_ok (I : Ix) {m o : Nat} (A : AltI G m (o + 1) alt) (hm : 0 < m) {s : Ps} (ho : s.opens = o) (he : s.err = 0) (hl : s.i < G.length) (hg : s.groups ≤ 4) : Ok (m + 1) s.groups (atomF G alt s) := by
  unfold atomF
  simp only
  by_cases c0 : badB G s.i = true
  · rw [if_pos c0]; intro h; exact absurd h (wrong_ne _ _ (by decide))
  rw [if_neg c0]
  by_cases c1 : runeAt G s.i = 40
  · rw [if_pos c1]; exact group_ok A hm ho he hl hg
  rw [if_neg c1]
  by_cases c2 : runeAt G s.i = 91
  · rw [if_pos c2]; exact cls_ok I m
  rw [if_neg c2]
  by_cases c3 : runeAt G s.i = 92
  · rw [if_pos c3]
    intro h
    have e : (signF G s).1.groups = s.groups := sign_groups s
    simp only [e]
    refine is_cls ?_ m s.groups
    exact sign_fix I h
  rw [if_neg c3]
  by_cases c4 : runeAt G s.i = 46
  · rw [if_pos c4]; intro _; exact is_cls (I.nt _) m s.groups
  rw [if_neg c4]
  by_cases c5 : runeAt G s.i = 94
  · rw [if_pos c5]; intro _; exact is_leaf 7 (by omega) m s.groups
  rw [if_neg c5]
  by_cases c6 : runeAt G s.i = 36
  · rw [if_pos c6]; intro _; exact is_leaf 8 (by omega) m s.groups
  rw [if_neg c6]
  split
  · intro h; exact absurd h (wrong_ne _ _ (by decide))
  · intro _; exact is_cls (I.mk_ _) m s.groups
theorem rep2_fine {n g : Nat} {u : Ps} {mn mx : Int} {x : List Nd} (h : u.err = 0 → Is n g x u.groups ∧ 0 ≤ mn ∧ mn ≤ 30 ∧ (mx = -1 ∨ (mn ≤ mx ∧ mx ≤ 30))) : Ok (n + 1) g (rep2 G u mn mx x) := by
  unfold rep2
  by_cases c : u.err = 0
  · rw [if_neg (by simpa using c)]
    intro _
    obtain ⟨h1, h2, h3, h4⟩ := h c
    show Is (n + 1) g _ (skipS G u 63).groups
    rw [skip_groups]
    exact is_rep mn mx _ h2 h3 h4 h1
  · rw [if_pos c]
    intro k; exact absurd k c
theorem dig_groups (s : Ps) : (digS G s).groups = s.groups := rfl
theorem often_groups (s : Ps) : (oftenF G s).1.groups = s.groups := by
  have h2 : ∀ (frm : Nat) (t : Ps) (m n : List UInt8) (ok en : Bool), (often2 G frm t m n ok en).1.groups = t.groups := by
    intro frm t m n ok en
    unfold often2
    simp only
    repeat' split
    all_goals simp
  unfold oftenF
  simp only
  split
  · rw [h2]; rfl
  · rw [h2]; rfl
theorem rep_ok (I : Ix) {m o : Nat} (A : AltI G m (o + 1) alt) (hm : 0 < m) {s : Ps} (ho : s.opens = o) (he : s.err = 0) (hl : s.i < G.length) (hg : s.groups ≤ 4) : Ok (m + 2) s.groups (repF G alt s) := by
  have ha := atom_ok I A hm ho he hl hg
  unfold repF
  simp only
  generalize atomF G alt s = a at ha ⊢
  by_cases c0 : a.1.err ≠ 0
  · rw [if_pos c0]; intro h; exact absurd h c0
  rw [if_neg c0]
  have c0' : a.1.err = 0 := by simpa using c0
  have hi := ha c0'
  by_cases c1 : isR G a.1 42 = true
  · rw [if_pos c1]; exact rep2_fine fun _ => ⟨hi, by decide, by decide, by decide⟩
  rw [if_neg c1]
  by_cases c2 : isR G a.1 43 = true
  · rw [if_pos c2]; exact rep2_fine fun _ => ⟨hi, by decide, by decide, by decide⟩
  rw [if_neg c2]
  by_cases c3 : isR G a.1 63 = true
  · rw [if_pos c3]; exact rep2_fine fun _ => ⟨hi, by decide, by decide, by decide⟩
  rw [if_neg c3]
  by_cases c4 : isR G a.1 123 = true
  · rw [if_pos c4]
    exact rep2_fine fun h => ⟨by rw [often_groups]; exact hi, often_bd c0' h⟩
  rw [if_neg c4]
  intro _
  exact hi.up
theorem catGo_ok (I : Ix) {m o : Nat} (A : AltI G m (o + 1) alt) (O : AltOk G alt) (hm : 0 < m) {g : Nat} : ∀ (n : Nat) (s : Ps) (ps : List (List Nd)), s.opens = o → s.i ≤ G.length → s.groups ≤ 4 → (s.err = 0 → RowP (Is (m + 2)) ps g s.groups) →
    (catGo G alt n s ps).1.err = 0 → RowP (Is (m + 2)) (catGo G alt n s ps).2 g (catGo G alt n s ps).1.groups
  | 0, s, ps, ho, hi, hg, h, he => h he
  | n + 1, s, ps, ho, hi, hg, h, he => by
    unfold catGo at he ⊢
    by_cases c : s.err = 0 ∧ s.i < G.length ∧ isR G s 124 = false ∧ ¬ (isR G s 41 = true ∧ 0 < s.opens)
    · rw [if_pos c] at he ⊢
      have hv := (repF_adv O c.2.1 hg).1
      exact catGo_ok I A O hm n _ _ (hv.op.trans ho) hv.len hv.gm (fun k => rowP_snoc _ _ _ _ _ (h c.1) (rep_ok I A hm ho c.1 c.2.1 hg k)) he
    · rw [if_neg c] at he ⊢
      exact h he
theorem cat_ok (I : Ix) {m o : Nat} (A : AltI G m (o + 1) alt) (O : AltOk G alt) (hm : 0 < m) {s : Ps} (ho : s.opens = o) (_he : s.err = 0) (hl : s.i ≤ G.length) (hg : s.groups ≤ 4) : Ok (m + 3) s.groups (catF G alt s) := by
  unfold catF Ok
  simp only
  intro h
  exact is_joined 3 (.inl rfl) (by omega) (catGo_ok I A O hm (g := s.groups) _ s [] ho hl hg (fun _ => rfl) h)
theorem altGo_ok (I : Ix) {m o : Nat} (A : AltI G m (o + 1) alt) (O : AltOk G alt) (hm : 0 < m) {g : Nat} : ∀ (n : Nat) (s : Ps) (ps : List (List Nd)), s.opens = o → s.i ≤ G.length → s.groups ≤ 4 → (s.err = 0 → RowP (Is (m + 3)) ps g s.groups) →
    (altGo G alt n s ps).1.err = 0 → RowP (Is (m + 3)) (altGo G alt n s ps).2 g (altGo G alt n s ps).1.groups
  | 0, s, ps, ho, hi, hg, h, he => h he
  | n + 1, s, ps, ho, hi, hg, h, he => by
    unfold altGo at he ⊢
    by_cases c : s.err = 0 ∧ isR G s 124 = true
    · rw [if_pos c] at he ⊢
      have l1 := isR_lt' c.2
      have hv := (catF_adv O (s := s.next) l1 hg).1
      exact altGo_ok I A O hm n _ _ (hv.op.trans ho) hv.len hv.gm (fun k => rowP_snoc _ _ _ _ _ (h c.1) (cat_ok I A O hm (s := s.next) ho c.1 l1 hg k)) he
    · rw [if_neg c] at he ⊢
      exact h he
theorem alt1_ok (I : Ix) {m o : Nat} (A : AltI G m (o + 1) alt) (O : AltOk G alt) (hm : 0 < m) : AltI G (m + 4) o (alt1 G alt) := by
  intro _ s ho he hl hg
  unfold alt1 Ok
  simp only
  intro h
  have hv := (catF_adv O (s := s) hl hg).1
  exact is_joined 4 (.inr rfl) (by omega) (altGo_ok I A O hm (g := s.groups) _ _ _ (hv.op.trans ho) hv.len hv.gm (fun k => ⟨_, cat_ok I A O hm ho he hl hg k, rfl⟩) h)
end
theorem altF_is (I : Ix) (G : List Gt) : ∀ n, n ≤ 21 → AltI G (4 * n + 1) (21 - n) (altF G n)
  | 0, _ => fun h => by omega
  | n + 1, hn => fun h => by
    have A : AltI G (4 * n + 1) (21 - (n + 1) + 1) (altF G n) := by
      rw [show 21 - (n + 1) + 1 = 21 - n by omega]
      exact altF_is I G n (by omega)
    exact alt1_ok I A (altF_ok n) (by omega) h
/-- What is read is right. -/
theorem parse_right {G : List Gt} (I : Ix) {L : List Nd} {p : Int} (hl : G.length ≤ 120) (h : parseG G = (L, 0, p)) : rRight L = true ∧ p = 0 := by
  have hv := (altF_ok (G := G) 21 ps0 (Nat.zero_le _) (by decide))
  have hi := altF_is I G 21 (by omega) (by omega) ps0 rfl rfl (Nat.zero_le _) (by decide)
  have e : fin G (altF G 21 ps0) = (L, 0, p) := h
  generalize altF G 21 ps0 = a at hv hi e
  obtain ⟨t, ls⟩ := a
  by_cases he : t.err = 0
  · by_cases hc : t.i < G.length
    · rw [fin_rest he hc] at e
      cases e
    · rw [fin_ok he hc] at e
      cases e
      have hs := hi he
      obtain ⟨w1, w2⟩ := is_walk _ _ _ _ hs
      have w3 := w1 [] []
      simp only [List.nil_append, List.append_nil, List.length_nil, Nat.zero_add] at w3
      have w4 := rWalk_mono L w3 (show 4 * 21 + 1 ≤ 241 by omega)
      have hb := rWalk_bd L _ _ _ w4
      have hlen := hv.2
      have hlen2 := hv.1.len
      have z : ps0.i = 0 := rfl
      simp only [z] at hlen hlen2
      refine ⟨?_, rfl⟩
      unfold rRight
      have w2' : capsGo L 0 = some t.groups := w2
      rw [w4, w2']
      have h1 : L.length ≤ 480 := by omega
      have h2 : 1 ≤ L.length := by omega
      simp [h1, h2]
  · rw [fin_err he] at e
    simp only [Prod.mk.injEq] at e
    exact absurd e.2.1 he
end
end Go.Proofs.YtooockbfagkknaaGreatDoor.syn
/- The brackets of what is printed. -/
namespace Go.Proofs.YtooockbfagkknaaGreatDoor.syn
open Go.RowKit Go.Proofs.YtooockbfagkknaaGreatDoor.sl Go.Proofs.YtooockbfagkknaaGreatDoor.cls
section
/-- How brackets stand, by runes: behind a backslash, open, the most. -/
def stepR (s : Bool × Int × Int) (c : Int) : Bool × Int × Int := if s.1 then (false, s.2) else if c = 92 then (true, s.2) else if c = 40 then (false, s.2.1 + 1, max s.2.2 (s.2.1 + 1)) else if c = 41 then (false, s.2.1 - 1, s.2.2) else s
def nestR (l : List Int) (s : Bool × Int × Int) : Bool × Int × Int := l.foldl stepR s
theorem nestR_app (x y : List Int) (s : Bool × Int × Int) : nestR (x ++ y) s = nestR y (nestR x s) := by simp [nestR]
/-- A text without brackets that count. -/
def Quiet (l : List Int) : Prop := ∀ o m, nestR l (false, o, m) = (false, o, m)
theorem Quiet.app {x y : List Int} (h : Quiet x) (k : Quiet y) : Quiet (x ++ y) := fun o m => by rw [nestR_app, h, k]
theorem quiet_nil : Quiet [] := fun _ _ => rfl
theorem quiet_one {c : Int} (h1 : c ≠ 92) (h2 : c ≠ 40) (h3 : c ≠ 41) : Quiet [c] := fun o m => by simp [nestR, stepR, h1, h2, h3]
theorem quiet_cons {c : Int} {l : List Int} (h1 : c ≠ 92) (h2 : c ≠ 40) (h3 : c ≠ 41) (h : Quiet l) : Quiet (c :: l) := Quiet.app (x := [c]) (quiet_one h1 h2 h3) h
theorem quiet_all : ∀ {l : List Int}, (∀ c ∈ l, c ≠ 92 ∧ c ≠ 40 ∧ c ≠ 41) → Quiet l
  | [], _ => quiet_nil
  | c :: l, h => quiet_cons (h c (by simp)).1 (h c (by simp)).2.1 (h c (by simp)).2.2 (quiet_all fun d hd => h d (by simp [hd]))
theorem quiet_shown (r : Int) : Quiet (shownR r) := by
  rcases shown_cases r with ⟨c, e, _⟩ | ⟨e, hm⟩
  · rw [e]; intro o m; simp [nestR, stepR]
  · rw [e]
    have hne := fun c hc => mark_not hm c hc
    exact quiet_one (hne _ (by decide)) (hne _ (by decide)) (hne _ (by decide))
theorem quiet_ranges (l : List Rg) : Quiet (rangesR l) := by
  induction l with
  | nil => exact quiet_nil
  | cons x l ih =>
    rw [rangesR_cons]
    refine Quiet.app ?_ ih
    unfold rangeR
    refine Quiet.app (quiet_shown _) ?_
    split
    · exact quiet_cons (by decide) (by decide) (by decide) (quiet_shown _)
    · exact quiet_nil
theorem quiet_classed (l : List Rg) : Quiet (classedR l) := by
  unfold classedR
  split
  · exact quiet_one (by decide) (by decide) (by decide)
  · split
    · exact Quiet.app (Quiet.app (quiet_all (by simp)) (quiet_ranges _)) (quiet_one (by decide) (by decide) (by decide))
    · split
      · exact quiet_shown _
      · exact Quiet.app (Quiet.app (quiet_one (by decide) (by decide) (by decide)) (quiet_ranges _)) (quiet_one (by decide) (by decide) (by decide))
theorem quiet_dgs (m : Nat) (h : m ≤ 30) : Quiet (dgs m) := quiet_all fun c hc => by have := dgs_dig m h c hc; omega
theorem quiet_it (n : Int) (h0 : 0 ≤ n) (h : n ≤ 30) : Quiet (itR n) := by
  unfold itR
  rw [if_neg (by omega)]
  exact quiet_dgs _ (by omega)
theorem quiet_sizes (x : Nd) (h1 : 0 ≤ x.mn) (h2 : x.mn ≤ 30) (h3 : x.mx = -1 ∨ (x.mn ≤ x.mx ∧ x.mx ≤ 30)) : Quiet (sizesR x) := by
  have q : ∀ {c : Int}, c ≠ 92 → c ≠ 40 → c ≠ 41 → Quiet [c] := fun h1 h2 h3 => quiet_one h1 h2 h3
  have qm := quiet_it x.mn h1 h2
  unfold sizesR
  refine Quiet.app ?_ ?_
  · split
    · exact q (by decide) (by decide) (by decide)
    split
    · exact q (by decide) (by decide) (by decide)
    split
    · exact q (by decide) (by decide) (by decide)
    split
    · exact ((q (by decide) (by decide) (by decide)).app qm).app (quiet_all (by simp))
    rename_i c4
    split
    · exact ((q (by decide) (by decide) (by decide)).app qm).app (q (by decide) (by decide) (by decide))
    · exact ((((q (by decide) (by decide) (by decide)).app qm).app (q (by decide) (by decide) (by decide))).app (quiet_it _ (by omega) (by omega))).app (q (by decide) (by decide) (by decide))
  · split
    · exact q (by decide) (by decide) (by decide)
    · exact quiet_nil
/-- Brackets stand d deep in a text. -/
def Deep (l : List Int) (d : Nat) : Prop := ∀ o m, o ≤ m → nestR l (false, o, m) = (false, o, max m (o + d))
theorem Quiet.deep {l : List Int} (h : Quiet l) : Deep l 0 := fun o m hm => by rw [h o m]; simp; omega
theorem Deep.app {x y : List Int} {d e : Nat} (h : Deep x d) (k : Deep y e) : Deep (x ++ y) (max d e) := fun o m hm => by
  rw [nestR_app, h o m hm, k o _ (by omega)]
  simp
  omega
theorem Deep.appQ {x y : List Int} {d : Nat} (h : Deep x d) (k : Quiet y) : Deep (x ++ y) d := by
  have := h.app k.deep
  rwa [Nat.max_eq_left (Nat.zero_le _)] at this
theorem Deep.in {x : List Int} {d : Nat} (h : Deep x d) (q : List Int) (hq : Quiet q) : Deep ([40] ++ q ++ x ++ [41]) (d + 1) := fun o m hm => by
  rw [nestR_app, nestR_app, nestR_app]
  have e1 : nestR [40] (false, o, m) = (false, o + 1, max m (o + 1)) := by simp [nestR, stepR]
  rw [e1, hq, h (o + 1) _ (by omega)]
  simp [nestR, stepR]
  omega
theorem deep_wrap {x : List Int} {d : Nat} (h : Deep x d) (b : Bool) : Deep (wrapR b x) (if b then d + 1 else d) := by
  unfold wrapR
  cases b
  · exact h
  · exact h.in [63, 58] (quiet_all (by simp))
theorem deep_kids {L : List Nd} {n : Nat} {over : Int} {sep : List Int} (hs : Quiet sep) (H : ∀ a b, rWalk L n a = some b → Deep (textR L n a).1 (depR L n a)) : ∀ (k a b : Nat), rKids (rWalk L n) k a = some b → Deep (kidsR (kidR L (textR L n) over) sep k a).1 (kidsD L n over (depR L n) k a)
  | 0, a, b, h => quiet_nil.deep
  | k + 1, a, b, h => by
    rw [rKids] at h
    split at h
    · cases h
    · rename_i c hc
      rw [kidsR, kidsD]
      have h1 : (kidR L (textR L n) over a).2 = c := text_end L n a c hc
      rw [h1, text_end L n a c hc]
      have hk : Deep (kidR L (textR L n) over a).1 (kidD L (depR L n) over a) := by
        unfold kidR kidD
        exact deep_wrap (H a c hc) _
      have h2 := (hs.deep.app hk).app (deep_kids (over := over) hs H k c b h)
      rw [show max 0 (kidD L (depR L n) over a) = kidD L (depR L n) over a by omega] at h2
      exact h2
theorem text_deep (L : List Nd) : ∀ (n a b : Nat), rWalk L n a = some b → Deep (textR L n a).1 (depR L n a)
  | 0, a, b, h => nomatch h
  | n + 1, a, b, h => by
    rw [rWalk] at h
    split at h
    · cases h
    rename_i hl
    split at h
    · cases h
    rename_i k hk
    rw [textR, depR]
    simp only
    have hs := shape_sh hk
    generalize L.getD a (nd 0) = x at hs ⊢
    have ih := text_deep L n
    have hw : ∀ over c, rWalk L n (a + 1) = some c → Deep (kidR L (textR L n) over (a + 1)).1 (kidD L (depR L n) over (a + 1)) := fun over c hc => deep_wrap (ih _ _ hc) _
    have one : ∀ over, rKids (rWalk L n) 1 (a + 1) = some b → Deep (kidR L (textR L n) over (a + 1)).1 (kidD L (depR L n) over (a + 1)) := fun over h' => by
      rw [rKids] at h'
      split at h'
      · cases h'
      · rename_i c hc; exact hw over c hc
    cases hs with
    | leaf ho e hk0 =>
      rw [if_neg (by omega)]
      rcases ho with ho | ho | ho
      · rw [if_neg (by omega), if_neg (by omega), if_neg (by omega), if_neg (by omega), if_neg (by omega), if_neg (by omega), if_neg (by omega), if_neg (by omega), if_neg (by omega)]
        exact (quiet_nil.deep).in [63, 58] (quiet_all (by simp))
      · rw [if_pos ho, if_pos (by omega)]
        exact (quiet_one (by decide) (by decide) (by decide)).deep
      · rw [if_neg (by omega), if_pos ho, if_pos (by omega)]
        exact (quiet_one (by decide) (by decide) (by decide)).deep
    | cls e hg hk0 =>
      have ho : x.op = 2 := by rw [e]; rfl
      rw [if_pos ho, if_pos (by omega)]
      exact (quiet_classed _).deep
    | rep e h1 h2 h3 hk0 =>
      subst hk0
      have ho : x.op = 5 := by rw [e]; rfl
      rw [if_neg (by omega), if_neg (by omega), if_neg (by omega), if_pos ho, if_neg (by omega), if_pos ho]
      exact (one 5 h).appQ (quiet_sizes x h1 h2 h3)
    | grp e h1 h2 hk0 =>
      subst hk0
      have ho : x.op = 6 := by rw [e]; rfl
      rw [if_neg (by omega), if_neg (by omega), if_neg (by omega), if_neg (by omega), if_pos ho, if_neg (by omega), if_neg (by omega), if_pos ho]
      have := (one 6 h).in [] quiet_nil
      simpa using this
    | many hop e h2 hk0 =>
      subst hk0
      have n2 : ¬ x.op = 2 := by omega
      have n5 : ¬ x.op = 5 := by omega
      have n6 : ¬ x.op = 6 := by omega
      have n7 : ¬ x.op = 7 := by omega
      have n8 : ¬ x.op = 8 := by omega
      simp only [n2, n5, n6, n7, n8, hop, if_false, if_true, or_self]
      obtain ⟨m, hm⟩ : ∃ m : Nat, x.kids = (m : Int) + 1 := ⟨(x.kids - 1).toNat, by omega⟩
      rw [show x.kids.toNat = m + 1 by omega] at h ⊢
      rw [show (x.kids - 1).toNat = m by omega]
      rw [rKids] at h
      split at h
      · cases h
      rename_i c hc
      have hk2 : (kidR L (textR L n) x.op (a + 1)).2 = c := text_end L n (a + 1) c hc
      rw [hk2, kidsD, text_end L n (a + 1) c hc]
      refine (hw x.op c hc).app (deep_kids ?_ ih m c b h)
      split
      · exact quiet_one (by decide) (by decide) (by decide)
      · exact quiet_nil
/-- The brackets of what is printed. -/
theorem print_deep {L : List Nd} (h : rRight L = true) : nestR (printR L) (false, 0, 0) = (false, 0, ((depR L 241 0 : Nat) : Int)) := by
  unfold rRight at h
  simp only [Bool.and_eq_true, beq_iff_eq] at h
  have := text_deep L 241 0 L.length h.1.2 0 0 (Int.le_refl _)
  unfold printR
  rw [this]
  simp
theorem print_ne (B : Bx) {L : List Nd} (h : rRight L = true) : printR L ≠ [] := by
  unfold rRight at h
  simp only [Bool.and_eq_true, beq_iff_eq] at h
  obtain ⟨c, y, e, _⟩ := text_head B L 241 0 L.length h.1.2
  unfold printR
  rw [e]
  simp
end
end Go.Proofs.YtooockbfagkknaaGreatDoor.syn
/- What reading and writing patterns use of ranges. -/
namespace Go.Proofs.YtooockbfagkknaaGreatDoor.syn
open Go.RowKit Go.Proofs.YtooockbfagkknaaGreatDoor.sl Go.Proofs.YtooockbfagkknaaGreatDoor.cls
theorem makeF_good {m : List Rg} (h : cls.Good m) : makeF m = m := makeF_is h fun r => by
  cases hh : hasB m r
  · simp
  · obtain ⟨p, hp, h1, h2⟩ := (has_iff m r).1 hh
    have := h.1 p hp
    have hv : validB r = true := by
      rw [valid_iff]
      unfold InP at this
      omega
    rw [hv]; rfl
theorem single_is {r : Int} (h : validB r = true) : singleF r = [(r, r)] := by
  have hv := (valid_iff r).1 h
  unfold singleF
  refine makeF_good ⟨fun p hp => ?_, by simp⟩
  obtain rfl : p = (r, r) := by simpa using hp
  unfold InP
  simp only
  omega
theorem good_of {l : List Rg} (h : l = makeF l) : cls.Good l := by rw [h]; exact (makeF_makes l).1
theorem bx : Bx where
  one r h := single_is h
  good l h x hx := by
    have := (good_of h).1 x hx
    unfold InP at this
    refine ⟨this.2.1, ?_, ?_⟩ <;> rw [valid_iff] <;> omega
  full := makeF_good (notF_nots []).1
  full0 := by rw [m4_is]; simp
  none_ := by
    rw [m4_is]
    exact notF_is ⟨by simp, by simp⟩ fun r => by
      rw [Bool.eq_iff_iff]
      simp [hasB, validB]
      omega
theorem ix : Ix where
  mk_ l := (makeF_good (makeF_makes l).1).symm
  nt l := (makeF_good (notF_nots l).1).symm
end Go.Proofs.YtooockbfagkknaaGreatDoor.syn
/- A pattern in brackets is read as the pattern, its groups one more where the brackets count. -/
namespace Go.Proofs.YtooockbfagkknaaGreatDoor.syn
open Go.RowKit Go.Proofs.YtooockbfagkknaaGreatDoor.sl Go.Proofs.YtooockbfagkknaaGreatDoor.cls
section
/-- A text, and the same text in brackets: k runes ahead, d groups more. -/
structure Nst (G G' : List Gt) (k d : Nat) : Prop where
  in_ : ∀ i, i < G.length → G'[i + k]? = G[i]?
  end_ : G'[G.length + k]? = some (41, 1)
  len : G'.length = G.length + k + 1
structure Sm (G : List Gt) (k d : Nat) (s s' : Ps) : Prop where
  e : s.err = 0
  e2 : s'.err = 0
  i : s'.i = s.i + k
  o : s'.opens = s.opens + 1
  g : s'.groups = s.groups + d
  le : s.i ≤ G.length
/-- A node whose group has a greater number. -/
def shN (d : Nat) (x : Nd) : Nd := if x.op = 6 then { x with cap := x.cap + d } else x
def SmO (G : List Gt) (k d : Nat) (a a' : Ps × List Nd) : Prop := a.1.err = 0 → a.1.groups + d ≤ 4 → (Sm G k d a.1 a'.1 ∧ a'.2 = a.2.map (shN d)) ∨ a'.1.err = 10
section
variable {G G' : List Gt} {k d : Nat} {s s' : Ps}
theorem Nst.rune (N : Nst G G' k d) {i : Nat} (h : i < G.length) : runeAt G' (i + k) = runeAt G i ∧ badB G' (i + k) = badB G i := by
  unfold runeAt badB
  rw [List.getD_eq_getElem?_getD, List.getD_eq_getElem?_getD, N.in_ i h]
  exact ⟨rfl, rfl⟩
theorem Nst.is (N : Nst G G' k d) (h : Sm G k d s s') (r : Int) (hr : r ≠ 41) : isR G' s' r = isR G s r := by
  by_cases hl : s.i < G.length
  · unfold isR
    rw [h.i, N.in_ _ hl]
  · have : s.i = G.length := by have := h.le; omega
    rw [isR_none (s := s) (by rw [List.getElem?_eq_none_iff]; omega), isR_get (s := s') (by rw [h.i, this]; exact N.end_)]
    simpa using fun k => hr k.symm
theorem Nst.is41 (N : Nst G G' k d) (h : Sm G k d s s') : isR G' s' 41 = (isR G s 41 || decide (s.i = G.length)) := by
  by_cases hl : s.i < G.length
  · unfold isR
    rw [h.i, N.in_ _ hl]
    have : decide (s.i = G.length) = false := by simp; omega
    rw [this, Bool.or_false]
  · have : s.i = G.length := by have := h.le; omega
    rw [isR_none (s := s) (by rw [List.getElem?_eq_none_iff]; omega), isR_get (s := s') (by rw [h.i, this]; exact N.end_)]
    simp [this]
theorem Sm.next (h : Sm G k d s s') (hl : s.i < G.length) : Sm G k d s.next s'.next := ⟨h.e, h.e2, by show s'.i + 1 = s.i + 1 + k; rw [h.i]; omega, h.o, h.g, hl⟩
theorem Sm.skip (N : Nst G G' k d) (h : Sm G k d s s') (r : Int) (hr : r ≠ 41) : Sm G k d (skipS G s r) (skipS G' s' r) := by
  unfold skipS
  rw [N.is h r hr]
  split
  · rename_i hq; exact h.next (isR_lt' hq)
  · exact h
/-- Ranges alike. -/
def SmR (G : List Gt) (k d : Nat) (a a' : Ps × List Rg × Bool) : Prop := a.1.err = 0 → Sm G k d a.1 a'.1 ∧ a'.2 = a.2
theorem sign_sm (N : Nst G G' k d) (h : Sm G k d s s') (hl : s.i < G.length) : SmR G k d (signF G s) (signF G' s') := by
  have hn := h.next hl
  unfold signF SmR
  simp only
  by_cases h1 : G.length ≤ s.next.i
  · rw [if_pos h1]; intro k; exact absurd k (wrong_ne _ _ (by decide))
  rw [if_neg h1, if_neg (show ¬ G'.length ≤ s'.next.i by rw [N.len, hn.i]; omega)]
  obtain ⟨r1, r2⟩ := N.rune (i := s.next.i) (by omega)
  rw [hn.i, r1, r2]
  by_cases h2 : badB G s.next.i = true
  · rw [if_pos h2]; intro k; exact absurd k (wrong_ne _ _ (by decide))
  rw [if_neg h2, if_neg h2]
  have hm := hn.next (by omega)
  generalize runeAt G s.next.i = r
  unfold sign1
  by_cases c1 : r = 110
  · rw [if_pos c1, if_pos c1]; exact fun _ => ⟨hm, rfl⟩
  rw [if_neg c1, if_neg c1]
  by_cases c2 : r = 116
  · rw [if_pos c2, if_pos c2]; exact fun _ => ⟨hm, rfl⟩
  rw [if_neg c2, if_neg c2]
  by_cases c3 : r = 114
  · rw [if_pos c3, if_pos c3]; exact fun _ => ⟨hm, rfl⟩
  rw [if_neg c3, if_neg c3]
  by_cases c4 : r = 100
  · rw [if_pos c4, if_pos c4]; exact fun _ => ⟨hm, rfl⟩
  rw [if_neg c4, if_neg c4]
  by_cases c5 : r = 115
  · rw [if_pos c5, if_pos c5]; exact fun _ => ⟨hm, rfl⟩
  rw [if_neg c5, if_neg c5]
  by_cases c6 : r = 119
  · rw [if_pos c6, if_pos c6]; exact fun _ => ⟨hm, rfl⟩
  rw [if_neg c6, if_neg c6]
  by_cases c7 : markB r = true
  · rw [if_pos c7, if_pos c7]; exact fun _ => ⟨hm, rfl⟩
  · rw [if_neg c7]; intro k; exact absurd k (wrong_ne _ _ (by decide))
theorem part_sm (N : Nst G G' k d) (h : Sm G k d s s') (hl : s.i < G.length) : SmR G k d (partF G s) (partF G' s') := by
  have hn := h.next hl
  unfold partF
  obtain ⟨r1, r2⟩ := N.rune hl
  simp only
  rw [h.i, r1, r2]
  by_cases h2 : badB G s.i = true
  · rw [if_pos h2]; intro k; exact absurd k (wrong_ne _ _ (by decide))
  rw [if_neg h2, if_neg h2]
  by_cases c1 : runeAt G s.i = 92
  · rw [if_pos c1, if_pos c1]; exact sign_sm N h hl
  rw [if_neg c1, if_neg c1]
  by_cases c2 : runeAt G s.i = 91 ∨ runeAt G s.i = 93 ∨ runeAt G s.i = 45
  · rw [if_pos c2, if_pos c2]; exact fun _ => ⟨h, rfl⟩
  · rw [if_neg c2, if_neg c2]; exact fun _ => ⟨hn, rfl⟩
theorem item_sm (N : Nst G G' k d) (h : Sm G k d s s') (hl : s.i < G.length) : (itemF G s).1.err = 0 → Sm G k d (itemF G s).1 (itemF G' s').1 ∧ (itemF G' s').2 = (itemF G s).2 := by
  have hp := part_sm N h hl
  unfold itemF
  simp only
  generalize partF G s = a at hp ⊢
  generalize partF G' s' = a' at hp ⊢
  obtain ⟨a1, a2, a3⟩ := a
  obtain ⟨b1, b2⟩ := a'
  simp only
  by_cases he : a1.err ≠ 0
  · rw [if_pos he]; intro k; exact absurd k he
  have he' : a1.err = 0 := by simpa using he
  obtain ⟨hm, hx⟩ := hp he'
  simp only at hm hx
  subst hx
  rw [if_neg he, if_neg (show ¬ b1.err ≠ 0 by rw [hm.e2]; simp)]
  simp only
  by_cases c1 : a2 = []
  · rw [if_pos c1]; intro k; exact absurd k (wrong_ne _ _ (by decide))
  rw [if_neg c1, if_neg c1, N.is hm 45 (by decide)]
  by_cases c2 : isR G a1 45 = true
  · rw [if_pos c2, if_pos c2]
    have hN := hm.next (isR_lt' c2)
    unfold item2
    simp only
    by_cases c3 : a1.next.i < G.length
    · rw [if_pos c3, if_pos (show b1.next.i < G'.length by rw [hN.i, N.len]; omega)]
      have hq := part_sm N hN c3
      generalize partF G a1.next = c at hq ⊢
      generalize partF G' b1.next = c' at hq ⊢
      obtain ⟨u1, u2, u3⟩ := c
      obtain ⟨v1, v2⟩ := c'
      simp only
      by_cases c4 : u1.err = 0 ∧ (a3 = false ∨ u3 = false ∨ lo0 u2 < lo0 a2)
      · have e1 : (if u1.err = 0 ∧ (a3 = false ∨ u3 = false ∨ lo0 u2 < lo0 a2) then u1.wrong G s.i 4 else u1) = u1.wrong G s.i 4 := if_pos c4
        rw [e1, if_neg (wrong_ne _ _ (by decide))]
        intro k; exact absurd k (wrong_ne _ _ (by decide))
      · have e1 : (if u1.err = 0 ∧ (a3 = false ∨ u3 = false ∨ lo0 u2 < lo0 a2) then u1.wrong G s.i 4 else u1) = u1 := if_neg c4
        rw [e1]
        by_cases c5 : u1.err = 0
        · obtain ⟨hu, hy⟩ := hq c5
          simp only at hu hy
          subst hy
          have e2 : (if v1.err = 0 ∧ (a3 = false ∨ u3 = false ∨ lo0 u2 < lo0 a2) then v1.wrong G' s'.i 4 else v1) = v1 := if_neg (fun q => c4 ⟨c5, q.2⟩)
          simp only
          rw [e2, if_pos c5, if_pos hu.e2]
          exact fun _ => ⟨hu, rfl⟩
        · rw [if_neg c5]; intro k; exact absurd k c5
    · rw [if_neg c3]
      have e1 : (if a1.next.err = 0 ∧ (a3 = false ∨ false = false ∨ lo0 [] < lo0 a2) then a1.next.wrong G s.i 4 else a1.next) = a1.next.wrong G s.i 4 := if_pos ⟨hN.e, .inr (.inl rfl)⟩
      rw [e1, if_neg (wrong_ne _ _ (by decide))]
      intro k; exact absurd k (wrong_ne _ _ (by decide))
  · rw [if_neg c2, if_neg c2]
    exact fun _ => ⟨hm, rfl⟩
theorem clsGo_err {frm n : Nat} {x : Ps} {l : List Rg} {b : Bool} (h : x.err ≠ 0) : clsGo G frm n x l b = (x, l, b, false) := by
  cases n with
  | zero => rfl
  | succ n => rw [clsGo, if_neg (fun k => h k.1)]
theorem clsGo_sm (N : Nst G G' k d) (frm frm' : Nat) : ∀ (n n' : Nat) (s s' : Ps) (l : List Rg) (b : Bool), Sm G k d s s' → s.groups ≤ 4 → G.length + 1 ≤ n + s.i → n ≤ n' → (clsGo G frm n s l b).1.err = 0 → Sm G k d (clsGo G frm n s l b).1 (clsGo G' frm' n' s' l b).1 ∧ (clsGo G' frm' n' s' l b).2 = (clsGo G frm n s l b).2
  | 0, n', s, s', l, b, h, hg, hn, hnn, he => by have := h.le; omega
  | n + 1, n', s, s', l, b, h, hg, hn, hnn, he => by
    obtain ⟨m', rfl⟩ : ∃ m, n' = m + 1 := ⟨n' - 1, by omega⟩
    unfold clsGo at he ⊢
    by_cases c1 : isR G s 93 = false
    · rw [if_pos (show s.err = 0 ∧ isR G s 93 = false from ⟨h.e, c1⟩)] at he ⊢
      rw [if_pos (show s'.err = 0 ∧ isR G' s' 93 = false from ⟨h.e2, by rw [N.is h 93 (by decide)]; exact c1⟩)]
      by_cases c2 : G.length ≤ s.i
      · rw [if_pos c2] at he; exact absurd he (wrong_ne _ _ (by decide))
      · rw [if_neg c2] at he ⊢
        rw [if_neg (show ¬ G'.length ≤ s'.i by rw [h.i, N.len]; omega)]
        by_cases c3 : (itemF G s).1.err = 0
        · obtain ⟨hm, hx⟩ := item_sm N h (by omega) c3
          have ha := itemF_adv (Adv.refl (G := G) h.le hg) (show s.i < G.length by omega)
          rw [hx]
          exact clsGo_sm N frm frm' n m' _ _ _ _ hm ha.1.gm (by have := ha.2.1 c3; omega) (by omega) he
        · rw [clsGo_err c3] at he; exact absurd he c3
    · rw [if_neg (show ¬ (s.err = 0 ∧ isR G s 93 = false) from fun q => c1 q.2)] at he ⊢
      rw [if_neg (show ¬ (s'.err = 0 ∧ isR G' s' 93 = false) from fun q => c1 (by rw [← N.is h 93 (by decide)]; exact q.2))]
      exact ⟨h, rfl⟩
theorem cls_sm (N : Nst G G' k d) (h : Sm G k d s s') (hg : s.groups ≤ 4) (hl : s.i < G.length) : (clsF G s).1.err = 0 → Sm G k d (clsF G s).1 (clsF G' s').1 ∧ (clsF G' s').2 = (clsF G s).2 := by
  have hn := h.next hl
  have hk := hn.skip N 94 (by decide)
  have hgk : (skipS G s.next 94).groups ≤ 4 := by rw [skip_groups]; exact hg
  have hc := clsGo_sm N s.i s'.i (G.length + 2 - (skipS G s.next 94).i) (G'.length + 2 - (skipS G' s'.next 94).i) _ _ [] true hk hgk (by have := hk.le; omega) (by rw [hk.i, N.len]; have := hk.le; omega)
  have hf := clsGo_flag (G := G) s.i (G.length + 2 - (skipS G s.next 94).i) (skipS G s.next 94) [] true
  have hend := clsGo_end (G := G) s.i (G.length + 2 - (skipS G s.next 94).i) (skipS G s.next 94) [] true hk.le hgk (.inl (by have := hk.le; omega))
  unfold clsF
  simp only
  rw [N.is hn 94 (by decide)]
  generalize clsGo G s.i (G.length + 2 - (skipS G s.next 94).i) (skipS G s.next 94) [] true = c at hc hf hend ⊢
  generalize clsGo G' s'.i (G'.length + 2 - (skipS G' s'.next 94).i) (skipS G' s'.next 94) [] true = c' at hc ⊢
  obtain ⟨a1, a2, a3, a4⟩ := c
  obtain ⟨b1, b2⟩ := c'
  simp only at hc hf hend ⊢
  by_cases h4 : a4 = true
  · rw [if_pos h4]; intro k; exact absurd k (hf h4)
  rw [if_neg h4]
  by_cases he : a1.err ≠ 0
  · rw [if_pos he]; intro k; exact absurd k he
  rw [if_neg he]
  have he' : a1.err = 0 := by simpa using he
  obtain ⟨hm, hx⟩ := hc he'
  subst hx
  simp only
  rw [if_neg h4, if_neg (show ¬ b1.err ≠ 0 by rw [hm.e2]; simp)]
  by_cases h3 : a3 = true
  · rw [if_pos h3]; intro k; exact absurd k (wrong_ne _ _ (by decide))
  · rw [if_neg h3, if_neg h3]
    have h93 : isR G a1 93 = true := by
      rcases hend with q | q
      · exact absurd he' q
      · exact q
    exact fun _ => ⟨hm.next (isR_lt' h93), rfl⟩
/-! ### Digits, groups, atoms -/
theorem digGo_sm (N : Nst G G' k d) : ∀ (n n' i : Nat) (b : List UInt8), G.length ≤ n + i → i ≤ G.length → n ≤ n' → digGo G' n' (i + k) b = ((digGo G n i b).1 + k, (digGo G n i b).2)
  | 0, n', i, b, hn, hi, hnn => by
    have e : i = G.length := by omega
    subst e
    cases n' with
    | zero => rfl
    | succ n' =>
      have hr : runeAt G' (G.length + k) = 41 := runeAt_get (g := (41, 1)) N.end_
      have e0 : digGo G' (n' + 1) (G.length + k) b = (G.length + k, b) := by
        rw [digGo, if_neg (show ¬ (G.length + k < G'.length ∧ 48 ≤ runeAt G' (G.length + k) ∧ runeAt G' (G.length + k) ≤ 57) by rw [hr]; omega)]
      exact e0
  | n + 1, n', i, b, hn, hi, hnn => by
    obtain ⟨m', rfl⟩ : ∃ m, n' = m + 1 := ⟨n' - 1, by omega⟩
    rw [digGo, digGo]
    by_cases hl : i < G.length
    · obtain ⟨r1, _⟩ := N.rune hl
      rw [r1]
      by_cases c : i < G.length ∧ 48 ≤ runeAt G i ∧ runeAt G i ≤ 57
      · rw [if_pos c, if_pos (show i + k < G'.length ∧ 48 ≤ runeAt G i ∧ runeAt G i ≤ 57 from ⟨by rw [N.len]; omega, c.2⟩)]
        have := digGo_sm N n m' (i + 1) (if 48 < runeAt G i ∨ b ≠ [] then b ++ [UInt8.ofNat (runeAt G i).toNat] else b) (by omega) (by omega) (by omega)
        rw [show i + 1 + k = i + k + 1 by omega] at this
        exact this
      · rw [if_neg c, if_neg (fun q => c ⟨hl, q.2⟩)]
    · have e : i = G.length := by omega
      subst e
      have hr : runeAt G' (G.length + k) = 41 := runeAt_get (g := (41, 1)) N.end_
      rw [if_neg (show ¬ (G.length < G.length ∧ 48 ≤ runeAt G G.length ∧ runeAt G G.length ≤ 57) by omega), if_neg (show ¬ (G.length + k < G'.length ∧ 48 ≤ runeAt G' (G.length + k) ∧ runeAt G' (G.length + k) ≤ 57) by rw [hr]; omega)]
theorem digs_sm (N : Nst G G' k d) (h : Sm G k d s s') : Sm G k d (digS G s) (digS G' s') ∧ digB G' s' = digB G s ∧ digK G' s' = digK G s := by
  have hle := digGo_le (G := G) (G.length - s.i) s.i []
  have hl := h.le
  have e := digGo_sm N (G.length - s.i) (G'.length - s'.i) s.i [] (by omega) hl (by rw [h.i, N.len]; omega)
  unfold digS digB digK
  rw [h.i] at e ⊢
  rw [e]
  refine ⟨⟨h.e, h.e2, rfl, h.o, h.g, ?_⟩, rfl, ?_⟩
  · show (digGo G (G.length - s.i) s.i []).1 ≤ _
    omega
  · simp
theorem often2_sm (N : Nst G G' k d) (h : Sm G k d s s') (frm frm' : Nat) (m n : List UInt8) (ok en : Bool) : (often2 G frm s m n ok en).1.err = 0 → Sm G k d (often2 G frm s m n ok en).1 (often2 G' frm' s' m n ok en).1 ∧ (often2 G' frm' s' m n ok en).2 = (often2 G frm s m n ok en).2 := by
  unfold often2
  simp only
  rw [N.is h 125 (by decide)]
  by_cases c1 : ok = false
  · rw [if_pos c1]; intro q; exact absurd q (wrong_ne _ _ (by decide))
  rw [if_neg c1, if_neg c1]
  by_cases c2 : isR G s 125 = false
  · rw [if_pos c2]; intro q; exact absurd q (wrong_ne _ _ (by decide))
  rw [if_neg c2, if_neg c2]
  by_cases c3 : en = false ∧ lessB n m = true
  · rw [if_pos c3]; intro q; exact absurd q (wrong_ne _ _ (by decide))
  rw [if_neg c3, if_neg c3]
  by_cases c4 : (valF m).2 = false ∨ (valF (if en = true then [] else n)).2 = false
  · rw [if_pos c4]; intro q; exact absurd q (wrong_ne _ _ (by decide))
  · rw [if_neg c4, if_neg c4]
    exact fun _ => ⟨h.next (isR_lt' (show isR G s 125 = true by simpa using c2)), rfl⟩
theorem often_sm (N : Nst G G' k d) (h : Sm G k d s s') (hl : s.i < G.length) : (oftenF G s).1.err = 0 → Sm G k d (oftenF G s).1 (oftenF G' s').1 ∧ (oftenF G' s').2 = (oftenF G s).2 := by
  obtain ⟨d1, d2, d3⟩ := digs_sm N (h.next hl)
  unfold oftenF
  simp only
  rw [d2, d3, N.is d1 44 (by decide)]
  by_cases c : digK G s.next = true ∧ isR G (digS G s.next) 44 = true
  · rw [if_pos c, if_pos c]
    obtain ⟨f1, f2, f3⟩ := digs_sm N (d1.next (isR_lt' c.2))
    rw [f2, f3]
    exact often2_sm N f1 _ _ _ _ _ _
  · rw [if_neg c, if_neg c]
    exact often2_sm N d1 _ _ _ _ _ _
variable {alt alt' : Ps → Ps × List Nd}
/-- What stands in brackets, alike; or the brackets stand too deep. -/
def AltS (G _G' : List Gt) (k d : Nat) (o : Nat) (alt alt' : Ps → Ps × List Nd) : Prop := ∀ s s', s.opens = o → Sm G k d s s' → s.groups ≤ 4 → SmO G k d (alt s) (alt' s')
theorem shN_grp (c : Nat) (d : Nat) : shN d { nd 6 with cap := (c : Int), kids := 1 } = { nd 6 with cap := ((c + d : Nat) : Int), kids := 1 } := by
  unfold shN nd
  simp
def closeR (G : List Gt) (frm : Nat) (a : Ps × List Nd) (F : List Nd → List Nd) : Ps × List Nd :=
  let s5 : Ps := { a.1 with opens := a.1.opens - 1 }
  if s5.err = 0 ∧ isR G s5 41 = false then (s5.wrong G frm 4, [])
  else ((if s5.err = 0 then s5.next else s5), F a.2)
theorem close_sm (N : Nst G G' k d) {a a' : Ps × List Nd} (ha : SmO G k d a a') (ho : 0 < a.1.opens) (frm frm' : Nat) (F F' : List Nd → List Nd) (hF : ∀ x, F' (x.map (shN d)) = (F x).map (shN d)) : SmO G k d (closeR G frm a F) (closeR G' frm' a' F') := by
  unfold closeR SmO
  simp only
  by_cases c5 : a.1.err = 0
  · by_cases c6 : isR G { a.1 with opens := a.1.opens - 1 } 41 = false
    · rw [if_pos (show a.1.err = 0 ∧ _ from ⟨c5, c6⟩)]
      intro q; exact absurd q (wrong_ne _ _ (by decide))
    rw [if_neg (show ¬ (a.1.err = 0 ∧ _) from fun q => c6 q.2), if_pos (show a.1.err = 0 from c5)]
    intro _ hgr
    rcases ha c5 hgr with ⟨hm2, hx⟩ | he
    · have hd : Sm G k d { a.1 with opens := a.1.opens - 1 } { a'.1 with opens := a'.1.opens - 1 } := ⟨hm2.e, hm2.e2, hm2.i, by have := hm2.o; show a'.1.opens - 1 = a.1.opens - 1 + 1; omega, hm2.g, hm2.le⟩
      have h41 : isR G { a.1 with opens := a.1.opens - 1 } 41 = true := by simpa using c6
      rw [if_neg (show ¬ (a'.1.err = 0 ∧ isR G' { a'.1 with opens := a'.1.opens - 1 } 41 = false) from fun q => by rw [N.is41 hd, h41] at q; simp at q), if_pos (show a'.1.err = 0 from hm2.e2)]
      exact .inl ⟨hd.next (isR_lt' h41), by simp only; rw [hx, hF]⟩
    · rw [if_neg (show ¬ (a'.1.err = 0 ∧ _) from fun q => by rw [he] at q; exact absurd q.1 (by decide)), if_neg (show ¬ a'.1.err = 0 by rw [he]; decide)]
      exact .inr he
  · rw [if_neg (show ¬ (a.1.err = 0 ∧ _) from fun q => c5 q.1), if_neg (show ¬ a.1.err = 0 from c5)]
    intro q
    exact absurd q c5
theorem group_sm (N : Nst G G' k d) (A : s.opens < 19 → AltS G G' k d (s.opens + 1) alt alt') (h : Sm G k d s s') (hg : s.groups ≤ 4) (hl : s.i < G.length) (O : AltOk G alt) : SmO G k d (groupF G alt s) (groupF G' alt' s') := by
  have hn := h.next hl
  unfold groupF
  simp only
  rw [N.is hn 63 (by decide)]
  by_cases c1 : isR G s.next 63 = true
  · have hm := hn.next (isR_lt' c1)
    simp only [c1, if_true]
    rw [N.is hm 58 (by decide)]
    by_cases c2 : isR G s.next.next 58 = false
    · rw [if_pos (show True ∧ isR G s.next.next 58 = false from ⟨trivial, c2⟩)]
      intro q; exact absurd q (wrong_ne _ _ (by decide))
    rw [if_neg (show ¬ (True ∧ isR G s.next.next 58 = false) from fun k => c2 k.2), if_neg (show ¬ (True ∧ isR G s.next.next 58 = false) from fun k => c2 k.2)]
    have hq := hm.next (isR_lt' (show isR G s.next.next 58 = true by simpa using c2))
    by_cases c3 : 20 ≤ s.next.next.next.opens
    · rw [if_pos c3]
      intro q; exact absurd q (wrong_ne _ _ (by decide))
    rw [if_neg c3, if_neg (show ¬ (true = false ∧ 4 ≤ s.next.next.next.groups) by simp)]
    by_cases c4 : 20 ≤ s'.next.next.next.opens
    · rw [if_pos c4]
      intro _ _
      exact .inr (by rw [wrong_of hq.e2])
    rw [if_neg c4, if_neg (show ¬ (true = false ∧ 4 ≤ s'.next.next.next.groups) by simp)]
    have ho19 : s.opens < 19 := by have := h.o; simp at c4; omega
    have hs2 : Sm G k d { s.next.next.next with opens := s.next.next.next.opens + 1 } { s'.next.next.next with opens := s'.next.next.next.opens + 1 } := ⟨hq.e, hq.e2, hq.i, by show s'.opens + 1 = s.opens + 1 + 1; rw [h.o], hq.g, hq.le⟩
    have hv := (O { s.next.next.next with opens := s.next.next.next.opens + 1 } hq.le hg).1.op
    exact close_sm N (A ho19 _ _ rfl hs2 hg) (by rw [hv]; show 0 < s.opens + 1; omega) s.i s'.i id id (fun x => rfl)
  · have c1' : isR G s.next 63 = false := by simpa using c1
    simp only [c1', Bool.false_eq_true, if_false, false_and]
    by_cases c3 : 20 ≤ s.next.opens
    · rw [if_pos c3]
      intro q; exact absurd q (wrong_ne _ _ (by decide))
    rw [if_neg c3]
    by_cases c2 : 4 ≤ s.next.groups
    · rw [if_pos (show True ∧ 4 ≤ s.next.groups from ⟨trivial, c2⟩)]
      intro q; exact absurd q (wrong_ne _ _ (by decide))
    rw [if_neg (show ¬ (True ∧ 4 ≤ s.next.groups) from fun k => c2 k.2)]
    by_cases c4 : 20 ≤ s'.next.opens
    · rw [if_pos c4]
      intro _ _
      exact .inr (by rw [wrong_of hn.e2])
    rw [if_neg c4]
    have ho19 : s.opens < 19 := by have := h.o; simp at c4; omega
    have hv0 := (O ({ i := s.next.i, opens := s.next.opens + 1, groups := s.next.groups + 1, err := s.next.err, wh := s.next.wh } : Ps) hn.le (by simp at c2; show s.groups + 1 ≤ 4; omega)).1
    by_cases c5 : 4 ≤ s'.next.groups
    · -- then too many groups come out of it
      intro q hgr
      exfalso
      have hgg : s.groups + 1 ≤ (alt ({ i := s.next.i, opens := s.next.opens + 1, groups := s.next.groups + 1, err := s.next.err, wh := s.next.wh } : Ps)).1.groups := hv0.gr
      have h5 : s'.groups = s.groups + d := h.g
      simp at c5
      have hgr2 : (alt ({ i := s.next.i, opens := s.next.opens + 1, groups := s.next.groups + 1, err := s.next.err, wh := s.next.wh } : Ps)).1.groups + d ≤ 4 := by
        split at hgr
        · rw [wrong_groups] at hgr; exact hgr
        · split at hgr
          · exact hgr
          · exact hgr
      omega
    rw [if_neg (show ¬ (True ∧ 4 ≤ s'.next.groups) from fun k => c5 k.2)]
    have hs2 : Sm G k d ({ i := s.next.i, opens := s.next.opens + 1, groups := s.next.groups + 1, err := s.next.err, wh := s.next.wh } : Ps) ({ i := s'.next.i, opens := s'.next.opens + 1, groups := s'.next.groups + 1, err := s'.next.err, wh := s'.next.wh } : Ps) :=
      ⟨hn.e, hn.e2, hn.i, by show s'.opens + 1 = s.opens + 1 + 1; rw [h.o], by show s'.groups + 1 = s.groups + 1 + d; rw [h.g]; omega, hn.le⟩
    refine close_sm N (A ho19 _ _ rfl hs2 (by simp at c2; show s.groups + 1 ≤ 4; omega)) (by rw [hv0.op]; show 0 < s.opens + 1; omega) s.i s'.i (fun x => { nd 6 with cap := ((s.next.groups + 1 : Nat) : Int), kids := 1 } :: x) (fun x => { nd 6 with cap := ((s'.next.groups + 1 : Nat) : Int), kids := 1 } :: x) (fun x => ?_)
    rw [List.map_cons, shN_grp]
    have h5 : s'.next.groups + 1 = s.next.groups + 1 + d := by show s'.groups + 1 = s.groups + 1 + d; rw [h.g]; omega
    rw [h5]
theorem sm_same {x : List Nd} {d : Nat} (h : ∀ y ∈ x, y.op ≠ 6) : x = x.map (shN d) := by
  have : x.map (shN d) = x.map id := List.map_congr_left fun y hy => by unfold shN; rw [if_neg (h y hy)]; rfl
  rw [this, List.map_id]
theorem atom_sm (N : Nst G G' k d) (A : s.opens < 19 → AltS G G' k d (s.opens + 1) alt alt') (h : Sm G k d s s') (hg : s.groups ≤ 4) (hl : s.i < G.length) (O : AltOk G alt) : SmO G k d (atomF G alt s) (atomF G' alt' s') := by
  have hn := h.next hl
  obtain ⟨r1, r2⟩ := N.rune hl
  unfold atomF
  simp only
  rw [h.i, r1, r2]
  by_cases c0 : badB G s.i = true
  · rw [if_pos c0]; intro q; exact absurd q (wrong_ne _ _ (by decide))
  rw [if_neg c0, if_neg c0]
  by_cases c1 : runeAt G s.i = 40
  · rw [if_pos c1, if_pos c1]; exact group_sm N A h hg hl O
  rw [if_neg c1, if_neg c1]
  by_cases c2 : runeAt G s.i = 91
  · rw [if_pos c2, if_pos c2]
    intro q _
    obtain ⟨hm, hx⟩ := cls_sm N h hg hl q
    refine .inl ⟨hm, ?_⟩
    rw [hx]
    refine sm_same fun y hy => ?_
    unfold clsF at hy
    simp only at hy
    split at hy
    · cases hy
    · split at hy
      · cases hy
      · split at hy
        · cases hy
        · simp at hy; rw [hy]; exact (by decide : (2 : Int) ≠ 6)
  rw [if_neg c2, if_neg c2]
  by_cases c3 : runeAt G s.i = 92
  · rw [if_pos c3, if_pos c3]
    intro q _
    obtain ⟨hm, hx⟩ := sign_sm N h hl q
    refine .inl ⟨hm, ?_⟩
    rw [hx]
    exact sm_same fun y hy => by simp at hy; rw [hy]; exact (by decide : (2 : Int) ≠ 6)
  rw [if_neg c3, if_neg c3]
  by_cases c4 : runeAt G s.i = 46
  · rw [if_pos c4, if_pos c4]
    exact fun _ _ => .inl ⟨hn, sm_same fun y hy => by simp at hy; rw [hy]; exact (by decide : (2 : Int) ≠ 6)⟩
  rw [if_neg c4, if_neg c4]
  by_cases c5 : runeAt G s.i = 94
  · rw [if_pos c5, if_pos c5]
    exact fun _ _ => .inl ⟨hn, sm_same fun y hy => by simp at hy; rw [hy]; exact (by decide : (7 : Int) ≠ 6)⟩
  rw [if_neg c5, if_neg c5]
  by_cases c6 : runeAt G s.i = 36
  · rw [if_pos c6, if_pos c6]
    exact fun _ _ => .inl ⟨hn, sm_same fun y hy => by simp at hy; rw [hy]; exact (by decide : (8 : Int) ≠ 6)⟩
  rw [if_neg c6, if_neg c6]
  split
  · intro q; exact absurd q (wrong_ne _ _ (by decide))
  · exact fun _ _ => .inl ⟨hn, sm_same fun y hy => by simp at hy; rw [hy]; exact (by decide : (2 : Int) ≠ 6)⟩
theorem rep2_sm (N : Nst G G' k d) {u u' : Ps} {mn mx : Int} {x : List Nd} (hu : u.err = 0 → Sm G k d u u') : SmO G k d (rep2 G u mn mx x) (rep2 G' u' mn mx (x.map (shN d))) := by
  unfold rep2 SmO
  by_cases c : u.err = 0
  · have h := hu c
    rw [if_neg (show ¬ u.err ≠ 0 by rw [c]; simp), if_neg (show ¬ u'.err ≠ 0 by rw [h.e2]; simp), N.is h 63 (by decide)]
    exact fun _ _ => .inl ⟨h.skip N 63 (by decide), by simp [shN, nd]⟩
  · rw [if_pos (show u.err ≠ 0 from c)]
    intro q; exact absurd q c
theorem rep_sm (N : Nst G G' k d) (A : s.opens < 19 → AltS G G' k d (s.opens + 1) alt alt') (h : Sm G k d s s') (hg : s.groups ≤ 4) (hl : s.i < G.length) (O : AltOk G alt) : SmO G k d (repF G alt s) (repF G' alt' s') := by
  have ha := atom_sm N A h hg hl O
  have key : ∀ {u u' : Ps × Int × Int} {x : List Nd}, (u.1.err = 0 → Sm G k d u.1 u'.1 ∧ u'.2 = u.2) → SmO G k d (rep2 G u.1 u.2.1 u.2.2 x) (rep2 G' u'.1 u'.2.1 u'.2.2 (x.map (shN d))) := by
    intro u u' x hu
    by_cases c : u.1.err = 0
    · rw [(hu c).2]
      exact rep2_sm N fun _ => (hu c).1
    · unfold rep2
      rw [if_pos (show u.1.err ≠ 0 from c)]
      intro q; exact absurd q c
  unfold repF
  simp only
  generalize atomF G alt s = a at ha ⊢
  generalize atomF G' alt' s' = a' at ha ⊢
  by_cases c0 : a.1.err = 0
  · rw [if_neg (show ¬ a.1.err ≠ 0 by rw [c0]; simp)]
    intro q hgr
    have hag : a.1.groups + d ≤ 4 := by
      have og := often_groups (G := G) a.1
      have rg : ∀ (u : Ps) (mn mx : Int) (x : List Nd), (rep2 G u mn mx x).1.groups = u.groups := by
        intro u mn mx x
        unfold rep2
        split
        · rfl
        · exact skip_groups _ _
      revert hgr
      split
      · rw [rg]; exact id
      · split
        · rw [rg]; exact id
        · split
          · rw [rg]; exact id
          · split
            · rw [rg, og]; exact id
            · exact id
    rcases ha c0 hag with ⟨hm, hx⟩ | he
    · rw [if_neg (show ¬ a'.1.err ≠ 0 by rw [hm.e2]; simp), hx]
      rw [N.is hm 42 (by decide), N.is hm 43 (by decide), N.is hm 63 (by decide), N.is hm 123 (by decide)]
      by_cases c1 : isR G a.1 42 = true
      · rw [if_pos c1] at q hgr ⊢
        rw [if_pos c1]
        exact key (u := (a.1.next, 0, -1)) (u' := (a'.1.next, 0, -1)) (fun _ => ⟨hm.next (isR_lt' c1), rfl⟩) q hgr
      rw [if_neg c1] at q hgr ⊢
      rw [if_neg c1]
      by_cases c2 : isR G a.1 43 = true
      · rw [if_pos c2] at q hgr ⊢
        rw [if_pos c2]
        exact key (u := (a.1.next, 1, -1)) (u' := (a'.1.next, 1, -1)) (fun _ => ⟨hm.next (isR_lt' c2), rfl⟩) q hgr
      rw [if_neg c2] at q hgr ⊢
      rw [if_neg c2]
      by_cases c3 : isR G a.1 63 = true
      · rw [if_pos c3] at q hgr ⊢
        rw [if_pos c3]
        exact key (u := (a.1.next, 0, 1)) (u' := (a'.1.next, 0, 1)) (fun _ => ⟨hm.next (isR_lt' c3), rfl⟩) q hgr
      rw [if_neg c3] at q hgr ⊢
      rw [if_neg c3]
      by_cases c4 : isR G a.1 123 = true
      · rw [if_pos c4] at q hgr ⊢
        rw [if_pos c4]
        exact key (u := oftenF G a.1) (u' := oftenF G' a'.1) (often_sm N hm (isR_lt' c4)) q hgr
      rw [if_neg c4] at q hgr ⊢
      rw [if_neg c4]
      exact .inl ⟨hm, hx⟩
    · rw [if_pos (show a'.1.err ≠ 0 by rw [he]; decide)]
      exact .inr he
  · rw [if_pos (show a.1.err ≠ 0 from c0)]
    intro q; exact absurd q c0
theorem catGo_gr (O : AltOk G alt) : ∀ (n : Nat) (t : Ps) (ps : List (List Nd)), t.groups ≤ 4 → t.groups ≤ (catGo G alt n t ps).1.groups
  | 0, t, ps, hg => Nat.le_refl _
  | n + 1, t, ps, hg => by
    unfold catGo
    split
    · rename_i c
      have hv := (repF_adv O c.2.1 hg).1
      exact Nat.le_trans hv.gr (catGo_gr O n _ _ hv.gm)
    · exact Nat.le_refl _
theorem altGo_gr (O : AltOk G alt) : ∀ (n : Nat) (t : Ps) (ps : List (List Nd)), t.groups ≤ 4 → t.groups ≤ (altGo G alt n t ps).1.groups
  | 0, t, ps, hg => Nat.le_refl _
  | n + 1, t, ps, hg => by
    unfold altGo
    split
    · rename_i c
      have hv := (catF_adv O (s := t.next) (isR_lt' c.2) hg).1
      exact Nat.le_trans hv.gr (altGo_gr O n _ _ hv.gm)
    · exact Nat.le_refl _
theorem rep_close (hl : s.i < G.length) (_he : s.err = 0) (h41 : isR G s 41 = true) : (repF G alt s).1.err ≠ 0 := by
  have hr : runeAt G s.i = 41 := by simpa [isR_run hl] using h41
  have ea : atomF G alt s = (s.wrong G s.i 4, []) := by
    unfold atomF
    simp only [hr]
    rw [bad_of hl (by omega)]
    simp
  unfold repF
  simp only [ea]
  rw [if_pos (wrong_ne _ _ (by decide))]
  exact wrong_ne _ _ (by decide)
theorem catGo_sm (N : Nst G G' k d) {o : Nat} (A : o < 19 → AltS G G' k d (o + 1) alt alt') (O : AltOk G alt) : ∀ (n n' : Nat) (s s' : Ps) (ps : List (List Nd)), s.opens = o → Sm G k d s s' → s.groups ≤ 4 → G.length + 1 ≤ n + s.i → n ≤ n' →
    (catGo G alt n s ps).1.err = 0 → (catGo G alt n s ps).1.groups + d ≤ 4 → (Sm G k d (catGo G alt n s ps).1 (catGo G' alt' n' s' (ps.map (List.map (shN d)))).1 ∧ (catGo G' alt' n' s' (ps.map (List.map (shN d)))).2 = (catGo G alt n s ps).2.map (List.map (shN d))) ∨ (catGo G' alt' n' s' (ps.map (List.map (shN d)))).1.err = 10
  | 0, n', s, s', ps, ho, h, hg, hn, hnn, he, hgr => by have := h.le; omega
  | n + 1, n', s, s', ps, ho, h, hg, hn, hnn, he, hgr => by
    obtain ⟨m', rfl⟩ : ∃ m, n' = m + 1 := ⟨n' - 1, by omega⟩
    unfold catGo at he hgr ⊢
    by_cases c : s.err = 0 ∧ s.i < G.length ∧ isR G s 124 = false ∧ ¬ (isR G s 41 = true ∧ 0 < s.opens)
    · rw [if_pos c] at he hgr ⊢
      have hv := repF_adv O c.2.1 hg
      by_cases c3 : (repF G alt s).1.err = 0
      · have h41 : isR G s 41 = false := by
          cases hq : isR G s 41
          · rfl
          · exact absurd c3 (rep_close c.2.1 h.e hq)
        rw [if_pos (show s'.err = 0 ∧ s'.i < G'.length ∧ isR G' s' 124 = false ∧ ¬ (isR G' s' 41 = true ∧ 0 < s'.opens) from
          ⟨h.e2, by rw [h.i, N.len]; omega, by rw [N.is h 124 (by decide)]; exact c.2.2.1, fun q => by
            rw [N.is41 h, h41] at q
            have : s.i = G.length := by simpa using q.1
            omega⟩)]
        have hgm := catGo_gr O n (repF G alt s).1 (ps ++ [(repF G alt s).2]) hv.1.gm
        rcases rep_sm N (fun q => by rw [ho]; exact A (by omega)) h hg c.2.1 O c3 (by omega) with ⟨hm, hx⟩ | hx
        · have := catGo_sm N A O n m' _ _ (ps ++ [(repF G alt s).2]) (by rw [hv.1.op]; exact ho) hm hv.1.gm (by have := hv.2.1 c3; omega) (by omega) he hgr
          rw [List.map_append, List.map_cons, List.map_nil, ← hx] at this
          exact this
        · right
          rw [catGo_err (by rw [hx]; decide)]
          exact hx
      · rw [catGo_err c3] at he; exact absurd he c3
    · rw [if_neg c] at he hgr ⊢
      rw [if_neg (show ¬ (s'.err = 0 ∧ s'.i < G'.length ∧ isR G' s' 124 = false ∧ ¬ (isR G' s' 41 = true ∧ 0 < s'.opens)) from fun q => by
        apply c
        have h41 : isR G' s' 41 = false := by
          cases hq : isR G' s' 41
          · rfl
          · exact absurd ⟨hq, by rw [h.o]; omega⟩ q.2.2.2
        rw [N.is41 h] at h41
        simp at h41
        have := h.le
        exact ⟨h.e, by omega, by rw [← N.is h 124 (by decide)]; exact q.2.2.1, fun z => by rw [h41.1] at z; cases z.1⟩)]
      exact .inl ⟨h, rfl⟩
theorem joined_sh (op : Int) (ho : op ≠ 6) (d : Nat) (ps : List (List Nd)) : joined op (ps.map (List.map (shN d))) = (joined op ps).map (shN d) := by
  match ps with
  | [] => simp [joined, shN, nd]
  | [x] => rfl
  | x :: y :: ps =>
    simp only [joined, List.map_cons, List.length_cons, List.length_map, List.map_append, List.flatten_cons, List.map_flatten]
    simp [shN, nd, ho]
theorem cat_sm (N : Nst G G' k d) (A : s.opens < 19 → AltS G G' k d (s.opens + 1) alt alt') (O : AltOk G alt) (h : Sm G k d s s') (hg : s.groups ≤ 4) : SmO G k d (catF G alt s) (catF G' alt' s') := by
  unfold catF SmO
  simp only
  intro he hgr
  have := catGo_sm N A O (G.length + 2 - s.i) (G'.length + 2 - s'.i) s s' [] rfl h hg (by have := h.le; omega) (by rw [h.i, N.len]; have := h.le; omega) he hgr
  rcases this with ⟨h1, h2⟩ | h1
  · exact .inl ⟨h1, by
      have h2' : (catGo G' alt' (G'.length + 2 - s'.i) s' []).2 = _ := h2
      rw [h2', joined_sh 3 (by decide)]⟩
  · exact .inr h1
theorem altGo_sm (N : Nst G G' k d) {o : Nat} (A : o < 19 → AltS G G' k d (o + 1) alt alt') (O : AltOk G alt) : ∀ (n n' : Nat) (s s' : Ps) (ps : List (List Nd)), s.opens = o → Sm G k d s s' → s.groups ≤ 4 → G.length + 1 ≤ n + s.i → n ≤ n' →
    (altGo G alt n s ps).1.err = 0 → (altGo G alt n s ps).1.groups + d ≤ 4 → (Sm G k d (altGo G alt n s ps).1 (altGo G' alt' n' s' (ps.map (List.map (shN d)))).1 ∧ (altGo G' alt' n' s' (ps.map (List.map (shN d)))).2 = (altGo G alt n s ps).2.map (List.map (shN d))) ∨ (altGo G' alt' n' s' (ps.map (List.map (shN d)))).1.err = 10
  | 0, n', s, s', ps, ho, h, hg, hn, hnn, he, hgr => by have := h.le; omega
  | n + 1, n', s, s', ps, ho, h, hg, hn, hnn, he, hgr => by
    obtain ⟨m', rfl⟩ : ∃ m, n' = m + 1 := ⟨n' - 1, by omega⟩
    unfold altGo at he hgr ⊢
    rw [N.is h 124 (by decide)]
    by_cases c : isR G s 124 = true
    · have hl := isR_lt' c
      have hN := h.next hl
      rw [if_pos (show s.err = 0 ∧ isR G s 124 = true from ⟨h.e, c⟩)] at he hgr ⊢
      rw [if_pos (show s'.err = 0 ∧ isR G s 124 = true from ⟨h.e2, c⟩)]
      have hv := catF_adv O (s := s.next) hN.le hg
      by_cases c3 : (catF G alt s.next).1.err = 0
      · have hgm := altGo_gr O n (catF G alt s.next).1 (ps ++ [(catF G alt s.next).2]) hv.1.gm
        rcases cat_sm N (fun q => by rw [show s.next.opens = o from ho]; exact A (by rw [← ho]; exact q)) O hN hg c3 (by omega) with ⟨hm, hx⟩ | hx
        · have := altGo_sm N A O n m' _ _ (ps ++ [(catF G alt s.next).2]) (by rw [hv.1.op]; exact ho) hm hv.1.gm (by have := hv.1.le; simp at this; omega) (by omega) he hgr
          rw [List.map_append, List.map_cons, List.map_nil, ← hx] at this
          exact this
        · right
          rw [altGo_err (by rw [hx]; decide)]
          exact hx
      · rw [altGo_err c3] at he; exact absurd he c3
    · rw [if_neg (show ¬ (s.err = 0 ∧ isR G s 124 = true) from fun q => c q.2)] at he hgr ⊢
      rw [if_neg (show ¬ (s'.err = 0 ∧ isR G s 124 = true) from fun q => c q.2)]
      exact .inl ⟨h, rfl⟩
theorem alt1_sm (N : Nst G G' k d) {o : Nat} (A : o < 19 → AltS G G' k d (o + 1) alt alt') (O : AltOk G alt) : AltS G G' k d o (alt1 G alt) (alt1 G' alt') := by
  intro s s' ho h hg
  unfold alt1 SmO
  simp only
  intro he hgr
  have hv := catF_adv O (s := s) h.le hg
  by_cases c3 : (catF G alt s).1.err = 0
  · have hgm := altGo_gr O (G.length + 2 - (catF G alt s).1.i) (catF G alt s).1 [(catF G alt s).2] hv.1.gm
    rcases cat_sm N (fun q => by rw [ho]; exact A (by omega)) O h hg c3 (by omega) with ⟨hm, hx⟩ | hx
    · have := altGo_sm N A O (G.length + 2 - (catF G alt s).1.i) (G'.length + 2 - (catF G' alt' s').1.i) _ _ [(catF G alt s).2] (by rw [hv.1.op]; exact ho) hm hv.1.gm (by have := hv.1.len; omega) (by rw [hm.i, N.len]; have := hv.1.len; omega) he hgr
      rw [List.map_cons, List.map_nil, ← hx] at this
      rcases this with ⟨h1, h2⟩ | h1
      · exact .inl ⟨h1, by rw [h2, joined_sh 4 (by decide)]⟩
      · exact .inr h1
    · right
      rw [altGo_err (by rw [hx]; decide)]
      exact hx
  · rw [altGo_err c3] at he; exact absurd he c3
theorem altF_sm (N : Nst G G' k d) : ∀ (n o : Nat), o + n = 20 → 1 ≤ n → AltS G G' k d o (altF G (n + 1)) (altF G' n)
  | 0, o, ho, hn => by omega
  | n + 1, o, ho, hn => by
    refine alt1_sm (alt := altF G (n + 1)) (alt' := altF G' n) N (fun h19 => ?_) (altF_ok (n + 1))
    exact altF_sm N n (o + 1) (by omega) (by omega)
theorem shN_zero (l : List Nd) : l.map (shN 0) = l := by
  have : l.map (shN 0) = l.map id := List.map_congr_left fun y _ => by unfold shN; split <;> simp
  rw [this, List.map_id]
/-- How many groups nodes have. -/
def grpN (l : List Nd) : Nat := (l.filter fun x => decide (x.op = 6)).length
theorem caps_count : ∀ (l : List Nd) (g g' : Nat), capsGo l g = some g' → g' = g + grpN l
  | [], g, g', h => by cases (show some g = some g' from h); simp [grpN]
  | x :: l, g, g', h => by
    rw [capsGo] at h
    by_cases h6 : x.op = 6
    · rw [if_pos h6] at h
      split at h
      · have := caps_count l _ _ h
        have e : grpN (x :: l) = grpN l + 1 := by simp [grpN, h6]
        omega
      · cases h
    · rw [if_neg h6] at h
      have := caps_count l _ _ h
      have e : grpN (x :: l) = grpN l := by simp [grpN, h6]
      omega
theorem parse_inner (I : Ix) {L : List Nd} (h : parseG G = (L, 0, 0)) : ∃ t, altF G 21 ps0 = (t, L) ∧ t.err = 0 ∧ t.i = G.length ∧ t.groups = grpN L := by
  have hv := (altF_ok (G := G) 21 ps0 (Nat.zero_le _) (by decide))
  have hi := altF_is I G 21 (by omega) (by omega) ps0 rfl rfl (Nat.zero_le _) (by decide)
  have e : fin G (altF G 21 ps0) = (L, 0, 0) := h
  generalize altF G 21 ps0 = a at hv hi e
  obtain ⟨t, ls⟩ := a
  by_cases he : t.err = 0
  · by_cases hc : t.i < G.length
    · rw [fin_rest he hc] at e; cases e
    · rw [fin_ok he hc] at e
      cases e
      have hl : t.i ≤ G.length := hv.1.len
      obtain ⟨_, w2⟩ := is_walk _ _ _ _ (hi he)
      have := caps_count _ _ _ w2
      exact ⟨t, rfl, he, by omega, by rw [this]; exact Nat.zero_add _⟩
  · rw [fin_err he] at e
    simp only [Prod.mk.injEq] at e
    exact absurd e.2.1 he
theorem alt1_of_atom_err (h0 : s.err = 0) (hl : s.i < G.length) (h124 : isR G s 124 = false) (h41 : isR G s 41 = false) (h : (atomF G alt s).1.err = 10) : (alt1 G alt s).1.err = 10 := by
  have hr : (repF G alt s).1.err = 10 := by
    unfold repF
    simp only
    rw [if_pos (by rw [h]; decide)]
    exact h
  have hc : (catF G alt s).1.err = 10 := by
    unfold catF
    simp only
    obtain ⟨m, hm⟩ : ∃ m, G.length + 2 - s.i = m + 1 := ⟨G.length + 1 - s.i, by omega⟩
    rw [hm, catGo, if_pos ⟨h0, hl, h124, by rw [h41]; simp⟩, catGo_err (by rw [hr]; decide)]
    exact hr
  unfold alt1
  simp only
  rw [altGo_err (by rw [hc]; decide)]
  exact hc
theorem parse_of_err (h : (altF G 21 ps0).1.err = 10) : (parseG G).2.1 = 10 := by
  show (fin G (altF G 21 ps0)).2.1 = 10
  generalize altF G 21 ps0 = a at h
  obtain ⟨t, ls⟩ := a
  rw [fin_err (by rw [h]; decide)]
  exact h
theorem atom_paren (hr : runeAt G s.i = 40) (hb : badB G s.i = false) : atomF G alt s = groupF G alt s := by
  unfold atomF
  simp only [hr]
  rw [hb]
  simp
/-- A pattern in brackets that don't count. -/
theorem nested_free (I : Ix) {L : List Nd} (N : Nst G G' 3 0) (h0 : G'[0]? = some (40, 1)) (h1 : G'[1]? = some (63, 1)) (h2 : G'[2]? = some (58, 1)) (h : parseG G = (L, 0, 0)) : parseG G' = (L, 0, 0) ∨ (parseG G').2.1 = 10 := by
  obtain ⟨t, e1, e2, e3, e4⟩ := parse_inner I h
  have hv := (altF_ok (G := G) 21 ps0 (Nat.zero_le _) (by decide)).1
  rw [e1] at hv
  have hs : Sm G 3 0 ps0 ⟨3, 1, 0, 0, 0⟩ := ⟨rfl, rfl, rfl, rfl, rfl, Nat.zero_le _⟩
  have hsm := altF_sm N 20 0 (by omega) (by omega) ps0 ⟨3, 1, 0, 0, 0⟩ rfl hs (by decide)
  rw [e1] at hsm
  have h63 : isR G' ps0.next 63 = true := by rw [isR_get (g := (63, 1)) h1]; rfl
  have h58 : isR G' ps0.next.next 58 = true := by rw [isR_get (g := (58, 1)) h2]; rfl
  rcases hsm e2 (by have := hv.gm; simpa using this) with ⟨hm, hx⟩ | hx
  · left
    rw [shN_zero] at hx
    have hA : altF G' 20 { ps0.next.next.next with opens := ps0.opens + 1 } = ((altF G' 20 ⟨3, 1, 0, 0, 0⟩).1, L) := Prod.ext rfl hx
    have ho : (altF G' 20 ⟨3, 1, 0, 0, 0⟩).1.opens = ps0.opens + 1 := by rw [hm.o]; show t.opens + 1 = 0 + 1; rw [show t.opens = 0 from hv.op]
    have hti : (altF G' 20 ⟨3, 1, 0, 0, 0⟩).1.i = G.length + 3 := by rw [hm.i, e3]
    have h41 : isR G' (altF G' 20 ⟨3, 1, 0, 0, 0⟩).1 41 = true := by rw [isR_get (g := (41, 1)) (by rw [hti]; exact N.end_)]; rfl
    have hend : G'[({ (altF G' 20 ⟨3, 1, 0, 0, 0⟩).1.next with opens := ps0.opens } : Ps).i]? = none := by
      rw [List.getElem?_eq_none_iff, N.len]
      show _ ≤ (altF G' 20 ⟨3, 1, 0, 0, 0⟩).1.i + 1
      rw [hti]; omega
    have := alt_free (G := G') 20 (s := ps0) (g := (40, 1)) rfl h0 rfl h63 h58 (by decide) hA hm.e2 ho h41 (.inl hend) (isR_none hend)
    show fin G' (altF G' 21 ps0) = _
    rw [this]
    exact fin_ok (t := ({ (altF G' 20 ⟨3, 1, 0, 0, 0⟩).1.next with opens := ps0.opens } : Ps)) hm.e2 (by show ¬ (altF G' 20 ⟨3, 1, 0, 0, 0⟩).1.i + 1 < G'.length; rw [hti, N.len]; omega)
  · right
    refine parse_of_err ?_
    have hl : ps0.i < G'.length := by rw [N.len]; show 0 < _; omega
    refine alt1_of_atom_err rfl hl (by rw [isR_get (g := (40, 1)) h0]; rfl) (by rw [isR_get (g := (40, 1)) h0]; rfl) ?_
    rw [atom_paren (s := ps0) (runeAt_get h0) (by rw [show ps0.i = 0 from rfl, bad_get h0]; rfl)]
    unfold groupF
    simp only [h63, if_true]
    rw [if_neg (by rw [h58]; simp), if_neg (by decide), if_neg (by simp)]
    have hx' : (altF G' 20 { ps0.next.next.next with opens := ps0.next.next.next.opens + 1 }).1.err = 10 := hx
    rw [if_neg (by rw [hx']; simp), if_neg (by rw [hx']; decide)]
    exact hx'
/-- A pattern in brackets that count. -/
theorem nested_group (I : Ix) {L : List Nd} (N : Nst G G' 1 1) (h0 : G'[0]? = some (40, 1)) (h1 : isR G' ps0.next 63 = false) (hg : grpN L < 4) (h : parseG G = (L, 0, 0)) :
    parseG G' = ({ nd 6 with cap := 1, kids := 1 } :: L.map (shN 1), 0, 0) ∨ (parseG G').2.1 = 10 := by
  obtain ⟨t, e1, e2, e3, e4⟩ := parse_inner I h
  have hv := (altF_ok (G := G) 21 ps0 (Nat.zero_le _) (by decide)).1
  rw [e1] at hv
  have hs : Sm G 1 1 ps0 ⟨1, 1, 1, 0, 0⟩ := ⟨rfl, rfl, rfl, rfl, rfl, Nat.zero_le _⟩
  have hsm := altF_sm N 20 0 (by omega) (by omega) ps0 ⟨1, 1, 1, 0, 0⟩ rfl hs (by decide)
  rw [e1] at hsm
  have hl : ps0.i < G'.length := by rw [N.len]; show 0 < _; omega
  have hat : atomF G' (altF G' 20) ps0 = closeR G' 0 (altF G' 20 ⟨1, 1, 1, 0, 0⟩) (fun x => { nd 6 with cap := 1, kids := 1 } :: x) := by
    rw [atom_paren (s := ps0) (runeAt_get h0) (by rw [show ps0.i = 0 from rfl, bad_get h0]; rfl)]
    unfold groupF
    simp only [h1]
    simp only [Bool.false_eq_true, if_false, false_and]
    rw [if_neg (show ¬ 20 ≤ ps0.next.opens by decide), if_neg (show ¬ (True ∧ 4 ≤ ps0.next.groups) by decide)]
    rfl
  rcases hsm e2 (by show t.groups + 1 ≤ 4; omega) with ⟨hm, hx⟩ | hx
  · left
    have ho : (altF G' 20 ⟨1, 1, 1, 0, 0⟩).1.opens = 1 := by rw [hm.o]; show t.opens + 1 = 1; rw [show t.opens = 0 from hv.op]
    have hti : (altF G' 20 ⟨1, 1, 1, 0, 0⟩).1.i = G.length + 1 := by rw [hm.i, e3]
    have h41 : isR G' { (altF G' 20 ⟨1, 1, 1, 0, 0⟩).1 with opens := (altF G' 20 ⟨1, 1, 1, 0, 0⟩).1.opens - 1 } 41 = true := by rw [isR_get (g := (41, 1)) (by show G'[(altF G' 20 ⟨1, 1, 1, 0, 0⟩).1.i]? = _; rw [hti]; exact N.end_)]; rfl
    have hcl : closeR G' 0 (altF G' 20 ⟨1, 1, 1, 0, 0⟩) (fun x => { nd 6 with cap := 1, kids := 1 } :: x) = (({ (altF G' 20 ⟨1, 1, 1, 0, 0⟩).1 with opens := (altF G' 20 ⟨1, 1, 1, 0, 0⟩).1.opens - 1 } : Ps).next, { nd 6 with cap := 1, kids := 1 } :: L.map (shN 1)) := by
      unfold closeR
      simp only
      rw [if_neg (show ¬ ((altF G' 20 ⟨1, 1, 1, 0, 0⟩).1.err = 0 ∧ isR G' { (altF G' 20 ⟨1, 1, 1, 0, 0⟩).1 with opens := (altF G' 20 ⟨1, 1, 1, 0, 0⟩).1.opens - 1 } 41 = false) by rw [h41]; simp), if_pos (show (altF G' 20 ⟨1, 1, 1, 0, 0⟩).1.err = 0 from hm.e2), hx]
    have hend : G'[({ (altF G' 20 ⟨1, 1, 1, 0, 0⟩).1 with opens := (altF G' 20 ⟨1, 1, 1, 0, 0⟩).1.opens - 1 } : Ps).next.i]? = none := by
      rw [List.getElem?_eq_none_iff, N.len]
      show _ ≤ (altF G' 20 ⟨1, 1, 1, 0, 0⟩).1.i + 1
      rw [hti]; omega
    have hrep := rep_none (hat.trans hcl) hm.e2 (noRep_none hend)
    have hcat := cat_one (alt := altF G' 20) hl rfl (by rw [isR_get (g := (40, 1)) h0]; rfl) (by rw [isR_get (g := (40, 1)) h0]; decide) hrep (.inl hend)
    have halt : altF G' 21 ps0 = _ := alt1_cat hcat (isR_none hend)
    show fin G' (altF G' 21 ps0) = _
    rw [halt]
    exact fin_ok (t := ({ (altF G' 20 ⟨1, 1, 1, 0, 0⟩).1 with opens := (altF G' 20 ⟨1, 1, 1, 0, 0⟩).1.opens - 1 } : Ps).next) hm.e2 (by show ¬ (altF G' 20 ⟨1, 1, 1, 0, 0⟩).1.i + 1 < G'.length; rw [hti, N.len]; omega)
  · right
    refine parse_of_err ?_
    refine alt1_of_atom_err rfl hl (by rw [isR_get (g := (40, 1)) h0]; rfl) (by rw [isR_get (g := (40, 1)) h0]; rfl) ?_
    rw [hat]
    unfold closeR
    simp only
    rw [if_neg (show ¬ ((altF G' 20 ⟨1, 1, 1, 0, 0⟩).1.err = 0 ∧ _) from fun q => by rw [hx] at q; exact absurd q.1 (by decide)), if_neg (show ¬ (altF G' 20 ⟨1, 1, 1, 0, 0⟩).1.err = 0 by rw [hx]; decide)]
    exact hx
end
end
end Go.Proofs.YtooockbfagkknaaGreatDoor.syn
