/- What the document's own parser computes, in plain Lean. -/
import Derived.Test.YtooockbfagkknaaGreatDoorSpec
import Derived.Test.YtooockbfagkknaaGreatDoorInv
import Derived.Test.YtooockbfagkknaaGreatDoorNrd
namespace Go.Proofs.YtooockbfagkknaaGreatDoor.syn
open Go.RowKit Go.Proofs.YtooockbfagkknaaGreatDoor.sl Go.Proofs.YtooockbfagkknaaGreatDoor.cls
section
variable (G : List Gt)
/-- The first wrong place counts; the place of a rune, or the end. -/
def rEsc (s : Ps) (frm : Nat) : Ps × List Rg :=
  if G.length ≤ s.i then (s.wrong G frm 4, [])
  else if badB G s.i then (s.wrong G s.i 4, [])
  else
    let r := runeAt G s.i
    if r = 110 then (s.next, [(10, 10)])
    else if r = 116 then (s.next, [(9, 9)])
    else if r = 114 then (s.next, [(13, 13)])
    else if r = 100 then (s.next, [(48, 57)])
    else if r = 115 then (s.next, makeF [(9, 10), (13, 13), (32, 32)])
    else if r = 119 then (s.next, makeF [(48, 57), (65, 90), (95, 95), (97, 122)])
    else if markB r then (s.next, [(r, r)])
    else (s.next.wrong G frm 4, [])
def rItem (s : Ps) : Ps × List Rg :=
  if badB G s.i then (s.next.wrong G s.i 4, [])
  else
    let r := runeAt G s.i
    if r = 92 then rEsc G s.next s.i
    else if r = 91 ∨ r = 45 then (s.next.wrong G s.i 4, [])
    else (s.next, [(r, r)])
def rSingle (l : List Rg) : Bool := decide (l.length = 1) && decide ((l.getD 0 (0, 0)).1 = (l.getD 0 (0, 0)).2)
/-- one item of a class behind its first part; true: the class ends here -/
def rMore (s : Ps) (frm : Nat) (a l : List Rg) : Ps × List Rg × Bool :=
  if s.err ≠ 0 ∨ isR G s 45 = false then (s, l ++ a, false)
  else
    let t := s.next
    if G.length ≤ t.i ∨ isR G t 93 = true ∨ isR G t 91 = true ∨ isR G t 45 = true then (t.wrong G frm 4, l, true)
    else
      let b := rItem G t
      if b.1.err = 0 ∧ (rSingle a = false ∨ rSingle b.2 = false ∨ lo0 b.2 < lo0 a) then (b.1.wrong G frm 4, l, true)
      else if b.1.err = 0 then (b.1, l ++ [(lo0 a, lo0 b.2)], false)
      else (b.1, l, false)
def rClsGo : Nat → Ps → List Rg → Bool → Ps × List Rg × Bool
  | 0, s, l, any => (s, l, any)
  | n + 1, s, l, any =>
    if s.err = 0 ∧ s.i < G.length ∧ isR G s 93 = false then
      let m := rMore G (rItem G s).1 s.i (rItem G s).2 l
      if m.2.2 then (m.1, m.2.1, true) else rClsGo n m.1 m.2.1 true
    else (s, l, any)
def rCls (s : Ps) (frm : Nat) : Ps × List Rg :=
  let neg := isR G s 94
  let t := skipS G s 94
  let c := rClsGo G (G.length + 2 - t.i) t [] false
  let u := if c.1.err = 0 ∧ (c.2.2 = false ∨ isR G c.1 93 = false) then c.1.wrong G frm 4 else c.1
  (u.next, if neg then notF c.2.1 else makeF c.2.1)
/-- the numbers of a repeat -/
def rCounts2 (frm : Nat) (s : Ps) (m n : List UInt8) (ok op : Bool) : Ps × Int × Int :=
  let t := if ok = false ∨ isR G s 125 = false ∨ (op = false ∧ lessB n m = true) then s.wrong G frm 4 else s
  let lo := valF m
  let hi := if op then (-1, true) else valF n
  let u := if lo.2 = false ∨ hi.2 = false then t.next.wrong G frm 2 else t.next
  (u, lo.1, hi.1)
def rCounts (s : Ps) : Ps × Int × Int :=
  let t := digS G s.next
  let m := digB G s.next
  let ok := digK G s.next
  if ok ∧ isR G t 44 then rCounts2 G s.i (digS G t.next) m (digB G t.next) ok (!digK G t.next)
  else rCounts2 G s.i t m m ok false
def rClosed (s : Ps) (frm : Nat) : Ps :=
  (if s.err = 0 ∧ isR G s 41 = false then s.wrong G frm 4 else s).next
def rGroup (alt : Ps → Ps × List Nd) (deep : Nat) (s : Ps) (frm : Nat) : Ps × List Nd :=
  let quiet := isR G s 63
  if quiet = true ∧ isR G s.next 58 = false then (s.wrong G frm 4, [])
  else if 20 ≤ deep then (s.wrong G frm 10, [])
  else if quiet then (rClosed G (alt s.next.next).1 frm, (alt s.next.next).2)
  else if 4 ≤ s.groups then (s.wrong G frm 13, [])
  else
    let t : Ps := { s with groups := s.groups + 1 }
    (rClosed G (alt t).1 frm, { nd 6 with cap := t.groups, kids := 1 } :: (alt t).2)
def rAtom (alt : Ps → Ps × List Nd) (deep : Nat) (s : Ps) : Ps × List Nd :=
  if badB G s.i then (s.next.wrong G s.i 4, [])
  else
    let r := runeAt G s.i
    if r = 40 then rGroup G alt deep s.next s.i
    else if r = 91 then ((rCls G s.next s.i).1, [ndC (rCls G s.next s.i).2])
    else if r = 46 then (s.next, [ndC (notF [(10, 10)])])
    else if r = 94 then (s.next, [nd 7])
    else if r = 36 then (s.next, [nd 8])
    else if r = 92 then ((rEsc G s.next s.i).1, [ndC (rEsc G s.next s.i).2])
    else if r = 42 ∨ r = 43 ∨ r = 63 ∨ r = 123 ∨ r = 125 ∨ r = 93 ∨ r = 41 ∨ r = 124 then (s.next.wrong G s.i 4, [])
    else (s.next, [ndC [(r, r)]])
def rRep2 (s : Ps) (mn mx : Int) (x : List Nd) : Ps × List Nd :=
  (skipS G s 63, { nd 5 with mn := mn, mx := mx, lz := isR G s 63, kids := 1 } :: x)
def rRep (alt : Ps → Ps × List Nd) (deep : Nat) (s : Ps) : Ps × List Nd :=
  let a := rAtom G alt deep s
  if a.1.err ≠ 0 ∨ G.length ≤ a.1.i then a
  else if isR G a.1 42 then rRep2 G a.1.next 0 (-1) a.2
  else if isR G a.1 43 then rRep2 G a.1.next 1 (-1) a.2
  else if isR G a.1 63 then rRep2 G a.1.next 0 1 a.2
  else if isR G a.1 123 then rRep2 G (rCounts G a.1).1 (rCounts G a.1).2.1 (rCounts G a.1).2.2 a.2
  else a
def rCatGo (alt : Ps → Ps × List Nd) (deep : Nat) : Nat → Ps → List (List Nd) → Ps × List (List Nd)
  | 0, s, ps => (s, ps)
  | n + 1, s, ps =>
    if s.err = 0 ∧ s.i < G.length ∧ isR G s 124 = false ∧ isR G s 41 = false then rCatGo alt deep n (rRep G alt deep s).1 (ps ++ [(rRep G alt deep s).2])
    else (s, ps)
def rCat (alt : Ps → Ps × List Nd) (deep : Nat) (s : Ps) : Ps × List Nd :=
  let c := rCatGo G alt deep (G.length + 2 - s.i) s []
  (c.1, joined 3 c.2)
def rAltGo (alt : Ps → Ps × List Nd) (deep : Nat) : Nat → Ps → List (List Nd) → Ps × List (List Nd)
  | 0, s, ps => (s, ps)
  | n + 1, s, ps =>
    if s.err = 0 ∧ isR G s 124 = true then rAltGo alt deep n (rCat G alt deep s.next).1 (ps ++ [(rCat G alt deep s.next).2])
    else (s, ps)
def rAlt1 (alt : Ps → Ps × List Nd) (deep : Nat) (s : Ps) : Ps × List Nd :=
  let c := rCat G alt deep s
  let d := rAltGo G alt deep (G.length + 2 - c.1.i) c.1 [c.2]
  (d.1, joined 4 d.2)
/-- n: how deep brackets may still stand. -/
def rAlt : Nat → Nat → Ps → Ps × List Nd
  | 0, _, s => (s, [])
  | n + 1, deep, s => rAlt1 G (rAlt n (deep + 1)) deep s
def rParse : List Nd × Int × Int :=
  let a := rAlt G 21 0 ps0
  let s := if a.1.err = 0 ∧ a.1.i < G.length then a.1.wrong G a.1.i 4 else a.1
  if s.err ≠ 0 then ([], s.err, s.wh) else (a.2, 0, 0)
end
end Go.Proofs.YtooockbfagkknaaGreatDoor.syn
/- The document's parser and the program's read every text alike. -/
namespace Go.Proofs.YtooockbfagkknaaGreatDoor.syn
open Go.RowKit Go.Proofs.YtooockbfagkknaaGreatDoor.sl Go.Proofs.YtooockbfagkknaaGreatDoor.cls
section
variable {G : List Gt}
/-- What the two parsers use of ranges. -/
structure Fx (G : List Gt) : Prop where
  one : ∀ i, i < G.length → singleF (runeAt G i) = [(runeAt G i, runeAt G i)]
  n : singleF 10 = [(10, 10)]
  t : singleF 9 = [(9, 9)]
  r : singleF 13 = [(13, 13)]
  d : makeF [(48, 57)] = [(48, 57)]
  s : rSingle (makeF [(9, 10), (13, 13), (32, 32)]) = false
  w : rSingle (makeF [(48, 57), (65, 90), (95, 95), (97, 122)]) = false
  s0 : makeF [(9, 10), (13, 13), (32, 32)] ≠ []
  w0 : makeF [(48, 57), (65, 90), (95, 95), (97, 122)] ≠ []
  not : ∀ l, notF (makeF l) = notF l
/-- Where both stand, before a wrong place. -/
structure At (G : List Gt) (deep : Nat) (s t : Ps) : Prop where
  e : s.err = 0
  e2 : t.err = 0
  i : t.i = s.i
  g : t.groups = s.groups
  o : s.opens = deep
  le : s.i ≤ G.length
/-- What both come to. -/
def Rel {α : Type} (G : List Gt) (deep : Nat) (a b : Ps × α) : Prop := (At G deep a.1 b.1 ∧ b.2 = a.2) ∨ (a.1.err ≠ 0 ∧ b.1.err = a.1.err ∧ b.1.wh = a.1.wh)
theorem wrong_of {s : Ps} (h : s.err = 0) (k : Nat) (e : Int) : s.wrong G k e = { s with err := e, wh := place G k } := by unfold Ps.wrong; rw [if_pos h]
theorem rel_wrong {α : Type} {deep k : Nat} {e : Int} {s t : Ps} {x y : α} (hs : s.err = 0) (ht : t.err = 0) (he : e ≠ 0) : Rel G deep (s.wrong G k e, x) (t.wrong G k e, y) := by
  right
  rw [wrong_of hs, wrong_of ht]
  exact ⟨he, rfl, rfl⟩
theorem isR_i {s t : Ps} (h : t.i = s.i) (r : Int) : isR G t r = isR G s r := by unfold isR; rw [h]
theorem isR_lt' {s : Ps} {r : Int} (h : isR G s r = true) : s.i < G.length := by
  unfold isR at h
  split at h
  · rename_i g hg; exact (List.getElem?_eq_some_iff.1 hg).1
  · cases h
theorem isR_run {s : Ps} {r : Int} (h : s.i < G.length) : isR G s r = (runeAt G s.i == r) := by
  unfold isR runeAt
  rw [List.getD_eq_getElem?_getD, List.getElem?_eq_getElem h]
  rfl
variable {deep : Nat} {s t : Ps}
theorem At.next (h : At G deep s t) (hl : s.i < G.length) : At G deep s.next t.next := ⟨h.e, h.e2, by show t.i + 1 = s.i + 1; rw [h.i], h.g, h.o, hl⟩
theorem At.skip (h : At G deep s t) (r : Int) : At G deep (skipS G s r) (skipS G t r) := by
  unfold skipS
  rw [isR_i h.i]
  split
  · rename_i hr; exact h.next (isR_lt' hr)
  · exact h
theorem single_one (r : Int) : rSingle [(r, r)] = true := by simp [rSingle]
/-- Behind a backslash: a, what the program reads from the backslash on; b, what the document reads behind it. -/
theorem sign_rel (F : Fx G) (h : At G deep s t) (hl : s.i < G.length) : Rel G deep ((signF G s).1, (signF G s).2.1) (rEsc G t.next s.i) ∧ ((signF G s).1.err = 0 → (signF G s).2.2 = rSingle (signF G s).2.1 ∧ (signF G s).2.1 ≠ []) := by
  have hn := h.next hl
  unfold signF rEsc
  simp only
  have hi : t.next.i = s.next.i := hn.i
  rw [hi]
  by_cases h1 : G.length ≤ s.next.i
  · rw [if_pos h1, if_pos h1]
    exact ⟨rel_wrong hn.e hn.e2 (by decide), fun he => by rw [wrong_of hn.e] at he; cases he⟩
  · rw [if_neg h1, if_neg h1]
    by_cases h2 : badB G s.next.i = true
    · rw [if_pos h2, if_pos h2]
      exact ⟨rel_wrong hn.e hn.e2 (by decide), fun he => by rw [wrong_of hn.e] at he; cases he⟩
    · rw [if_neg h2, if_neg h2]
      have hr := F.one s.next.i (by omega)
      have hm := hn.next (by omega)
      generalize runeAt G s.next.i = r at hr
      unfold sign1
      by_cases c1 : r = 110
      · rw [if_pos c1, if_pos c1, F.n]; exact ⟨.inl ⟨hm, rfl⟩, fun _ => ⟨(single_one _).symm, by simp⟩⟩
      rw [if_neg c1, if_neg c1]
      by_cases c2 : r = 116
      · rw [if_pos c2, if_pos c2, F.t]; exact ⟨.inl ⟨hm, rfl⟩, fun _ => ⟨(single_one _).symm, by simp⟩⟩
      rw [if_neg c2, if_neg c2]
      by_cases c3 : r = 114
      · rw [if_pos c3, if_pos c3, F.r]; exact ⟨.inl ⟨hm, rfl⟩, fun _ => ⟨(single_one _).symm, by simp⟩⟩
      rw [if_neg c3, if_neg c3]
      by_cases c4 : r = 100
      · rw [if_pos c4, if_pos c4, F.d]; exact ⟨.inl ⟨hm, rfl⟩, fun _ => ⟨by simp [rSingle], by simp⟩⟩
      rw [if_neg c4, if_neg c4]
      by_cases c5 : r = 115
      · rw [if_pos c5, if_pos c5]; exact ⟨.inl ⟨hm, rfl⟩, fun _ => ⟨F.s.symm, F.s0⟩⟩
      rw [if_neg c5, if_neg c5]
      by_cases c6 : r = 119
      · rw [if_pos c6, if_pos c6]; exact ⟨.inl ⟨hm, rfl⟩, fun _ => ⟨F.w.symm, F.w0⟩⟩
      rw [if_neg c6, if_neg c6]
      by_cases c7 : markB r = true
      · rw [if_pos c7, if_pos c7, hr]; exact ⟨.inl ⟨hm, rfl⟩, fun _ => ⟨(single_one _).symm, by simp⟩⟩
      · rw [if_neg c7, if_neg c7]
        exact ⟨rel_wrong hm.e hm.e2 (by decide), fun he => by rw [wrong_of hm.e] at he; cases he⟩
/-- A part that stands at a place where no ], [ and - stand. -/
theorem part_rel (F : Fx G) (h : At G deep s t) (hl : s.i < G.length) (h93 : isR G s 93 = false) :
    (Rel G deep ((partF G s).1, (partF G s).2.1) (rItem G t) ∧ ((partF G s).1.err = 0 → (partF G s).2.2 = rSingle (partF G s).2.1 ∧ (partF G s).2.1 ≠ [])) ∨
      (partF G s = (s, [], false) ∧ badB G s.i = false ∧ (runeAt G s.i = 91 ∨ runeAt G s.i = 45) ∧ rItem G t = (t.next.wrong G s.i 4, [])) := by
  have hn := h.next hl
  rw [isR_run hl] at h93
  unfold partF rItem
  rw [h.i]
  by_cases h2 : badB G s.i = true
  · rw [if_pos h2, if_pos h2]
    exact .inl ⟨rel_wrong h.e hn.e2 (by decide), fun he => by rw [wrong_of h.e] at he; cases he⟩
  · rw [if_neg h2, if_neg h2]
    generalize runeAt G s.i = r at h93
    simp only
    by_cases c1 : r = 92
    · rw [if_pos c1, if_pos c1]
      exact .inl (sign_rel F h hl)
    · rw [if_neg c1, if_neg c1]
      by_cases c2 : r = 91 ∨ r = 45
      · rw [if_pos (by omega), if_pos c2]
        exact .inr ⟨rfl, by simpa using h2, c2, rfl⟩
      · have c3 : ¬ r = 93 := by simpa using h93
        rw [if_neg (by omega), if_neg c2]
        exact .inl ⟨.inl ⟨hn, rfl⟩, fun _ => ⟨(single_one _).symm, by simp⟩⟩
theorem bad_of {i : Nat} (hl : i < G.length) (h : runeAt G i ≠ 65533) : badB G i = false := by
  unfold badB
  rw [List.getElem?_eq_getElem hl]
  unfold runeAt at h
  rw [List.getD_eq_getElem?_getD, List.getElem?_eq_getElem hl] at h
  simp only [Option.getD_some] at h
  simp [h]
theorem part_none {x : Ps} (hl : x.i < G.length) (h : runeAt G x.i = 91 ∨ runeAt G x.i = 93 ∨ runeAt G x.i = 45) : partF G x = (x, [], false) := by
  unfold partF
  rw [bad_of hl (by omega)]
  simp only [Bool.false_eq_true, if_false]
  rw [if_neg (by omega), if_pos h]
theorem item2_bad {x : Ps} (a : List Rg) (one : Bool) (frm : Nat) (he : x.err = 0) (h : G.length ≤ x.i ∨ (x.i < G.length ∧ (runeAt G x.i = 91 ∨ runeAt G x.i = 93 ∨ runeAt G x.i = 45))) : item2 G a one frm x = (x.wrong G frm 4, []) := by
  have hb : (if x.i < G.length then partF G x else (x, [], false)) = (x, [], false) := by
    rcases h with h | ⟨h, hr⟩
    · rw [if_neg (by omega)]
    · rw [if_pos h, part_none h hr]
  unfold item2
  simp only
  rw [hb]
  have e : (if x.err = 0 ∧ (one = false ∨ false = false ∨ lo0 [] < lo0 a) then x.wrong G frm 4 else x) = x.wrong G frm 4 := if_pos ⟨he, .inr (.inl rfl)⟩
  rw [e, if_neg (by rw [wrong_of he]; simp)]
/-- What an item comes to. -/
def RelI (G : List Gt) (deep : Nat) (l : List Rg) (a : Ps × List Rg) (m : Ps × List Rg × Bool) : Prop := (At G deep a.1 m.1 ∧ m.2 = (l ++ a.2, false)) ∨ (a.1.err ≠ 0 ∧ m.1.err = a.1.err ∧ m.1.wh = a.1.wh)
theorem more_err {x : Ps} {frm : Nat} {a l : List Rg} (h : x.err ≠ 0) : rMore G x frm a l = (x, l ++ a, false) := by
  unfold rMore
  rw [if_pos (.inl h)]
theorem item_rel (F : Fx G) (h : At G deep s t) (hl : s.i < G.length) (h93 : isR G s 93 = false) (l : List Rg) : RelI G deep l (itemF G s) (rMore G (rItem G t).1 t.i (rItem G t).2 l) := by
  rcases part_rel F h hl h93 with ⟨hp, hq⟩ | ⟨hp, hb, hr, hi⟩
  · unfold itemF
    simp only
    generalize partF G s = a at hp hq ⊢
    obtain ⟨a1, a2, a3⟩ := a
    generalize rItem G t = b at hp ⊢
    obtain ⟨b1, b2⟩ := b
    simp only at hp hq ⊢
    rcases hp with ⟨hA, he⟩ | ⟨he, he1, he2⟩
    · simp only at hA he
      subst he
      obtain ⟨hs, hne⟩ := hq hA.e
      rw [if_neg (by rw [hA.e]; simp), if_neg hne]
      by_cases h45 : isR G a1 45 = true
      · rw [if_pos h45]
        have hlt := isR_lt' h45
        have hN := hA.next hlt
        unfold rMore
        rw [if_neg (by rw [isR_i hA.i, h45, hA.e2]; simp)]
        simp only
        have hNi : b1.next.i = a1.next.i := hN.i
        rw [isR_i hNi, isR_i hNi, isR_i hNi, hNi, h.i]
        by_cases c1 : G.length ≤ a1.next.i
        · rw [if_pos (.inl c1), item2_bad b2 a3 s.i hN.e (.inl c1), wrong_of hN.e, wrong_of hN.e2]
          exact .inr ⟨by simp, rfl, rfl⟩
        · by_cases c2 : isR G a1.next 93 = true ∨ isR G a1.next 91 = true ∨ isR G a1.next 45 = true
          · rw [if_pos (.inr c2)]
            have hrr : runeAt G a1.next.i = 91 ∨ runeAt G a1.next.i = 93 ∨ runeAt G a1.next.i = 45 := by
              rw [isR_run (by omega), isR_run (by omega), isR_run (by omega)] at c2
              simp only [beq_iff_eq] at c2
              omega
            rw [item2_bad b2 a3 s.i hN.e (.inr ⟨by omega, hrr⟩), wrong_of hN.e, wrong_of hN.e2]
            exact .inr ⟨by simp, rfl, rfl⟩
          · rw [if_neg (by rintro (c | c); exact c1 c; exact c2 c)]
            have c93 : isR G a1.next 93 = false := by
              cases hx : isR G a1.next 93
              · rfl
              · exact absurd (.inl hx) c2
            rcases part_rel F hN (by omega) c93 with ⟨hp2, hq2⟩ | ⟨hp2, hb2, hr2, hi2⟩
            · unfold item2
              simp only
              rw [if_pos (show a1.next.i < G.length by omega)]
              generalize partF G a1.next = c at hp2 hq2 ⊢
              obtain ⟨d1, d2, d3⟩ := c
              generalize rItem G b1.next = f at hp2 ⊢
              obtain ⟨f1, f2⟩ := f
              simp only at hp2 hq2 ⊢
              rcases hp2 with ⟨hA2, he2⟩ | ⟨he2, he3, he4⟩
              · simp only at hA2 he2
                subst he2
                obtain ⟨hs2, _⟩ := hq2 hA2.e
                subst hs hs2
                by_cases c3 : rSingle b2 = false ∨ rSingle f2 = false ∨ lo0 f2 < lo0 b2
                · rw [if_pos (⟨hA2.e, c3⟩ : d1.err = 0 ∧ _), if_pos (⟨hA2.e2, c3⟩ : f1.err = 0 ∧ _), wrong_of hA2.e, wrong_of hA2.e2]
                  exact .inr ⟨by simp, rfl, rfl⟩
                · rw [if_neg (fun k => c3 k.2 : ¬ (d1.err = 0 ∧ _)), if_neg (fun k => c3 k.2 : ¬ (f1.err = 0 ∧ _)), if_pos hA2.e, if_pos hA2.e2]
                  exact .inl ⟨hA2, rfl⟩
              · simp only at he2 he3 he4
                rw [if_neg (fun k => he2 k.1 : ¬ (d1.err = 0 ∧ _)), if_neg he2, if_neg (fun k => he2 (he3 ▸ k.1) : ¬ (f1.err = 0 ∧ _)), if_neg (fun k => he2 (he3 ▸ k))]
                exact .inr ⟨he2, he3, he4⟩
            · exfalso
              apply c2
              rw [isR_run (by omega), isR_run (by omega), isR_run (by omega)]
              simp only [beq_iff_eq]
              omega
      · rw [if_neg h45]
        unfold rMore
        rw [if_pos (.inr (by rw [isR_i hA.i]; simpa using h45))]
        exact .inl ⟨hA, rfl⟩
    · simp only at he he1 he2
      rw [if_pos he, more_err (by rw [he1]; exact he)]
      exact .inr ⟨he, he1, he2⟩
  · unfold itemF
    rw [hp, hi]
    simp only
    have hn := h.next hl
    rw [if_neg (by rw [h.e]; simp), if_pos trivial, more_err (by rw [wrong_of hn.e2]; simp), wrong_of h.e, wrong_of hn.e2]
    exact .inr ⟨by simp, rfl, rfl⟩
/-- How the items of a class end. -/
def RelC (G : List Gt) (deep frm : Nat) (a : Ps × List Rg × Bool × Bool) (b : Ps × List Rg × Bool) : Prop :=
  (At G deep a.1 b.1 ∧ b.2.1 = a.2.1 ∧ b.2.2 = !a.2.2.1 ∧ a.2.2.2 = false ∧ isR G a.1 93 = true) ∨
    (a.1.err ≠ 0 ∧ b.1.err = a.1.err ∧ b.1.wh = a.1.wh) ∨ (a.1.err = 4 ∧ a.1.wh = place G frm ∧ b.1.err = 0 ∧ isR G b.1 93 = false)
theorem clsGo_rel (F : Fx G) (frm : Nat) : ∀ (n : Nat) (s t : Ps) (l : List Rg) (none_ : Bool), At G deep s t → s.groups ≤ 4 → G.length + 2 ≤ n + s.i → RelC G deep frm (clsGo G frm n s l none_) (rClsGo G n t l (!none_))
  | 0, s, t, l, none_, h, hg, hn => by have := h.le; omega
  | n + 1, s, t, l, none_, h, hg, hn => by
    unfold clsGo rClsGo
    by_cases h93 : isR G s 93 = false
    · rw [if_pos ⟨h.e, h93⟩]
      by_cases hl : G.length ≤ s.i
      · rw [if_pos hl, if_neg (by rw [h.i]; omega), wrong_of h.e]
        exact .inr (.inr ⟨rfl, rfl, h.e2, (isR_i h.i 93).trans h93⟩)
      · rw [if_neg hl, if_pos ⟨h.e2, by rw [h.i]; omega, by rw [isR_i h.i]; exact h93⟩]
        have hi := item_rel F h (by omega) h93 l
        have hadv := (itemF_adv (Adv.refl (G := G) h.le hg) (by omega)).2.1
        have hgm := (itemF_adv (Adv.refl (G := G) h.le hg) (by omega)).1.gm
        generalize itemF G s = a at hi hadv hgm ⊢
        generalize rMore G (rItem G t).1 t.i (rItem G t).2 l = m at hi ⊢
        obtain ⟨m1, m2, m3⟩ := m
        obtain ⟨a1, a2⟩ := a
        rcases hi with ⟨hA, he⟩ | ⟨he, he1, he2⟩
        · simp only [Prod.mk.injEq] at he hA
          obtain ⟨rfl, rfl⟩ := he
          simp only [Bool.false_eq_true, if_false]
          exact clsGo_rel F frm n a1 m1 _ false hA hgm (by have := hadv hA.e; simp only at this; omega)
        · simp only at he he1 he2 ⊢
          have e1 : clsGo G frm n a1 (l ++ a2) false = (a1, l ++ a2, false, false) := by
            cases n with
            | zero => rfl
            | succ n => rw [clsGo, if_neg (fun k => he k.1)]
          rw [e1]
          cases m3
          · simp only [Bool.false_eq_true, if_false]
            have e2 : rClsGo G n m1 m2 true = (m1, m2, true) := by
              cases n with
              | zero => rfl
              | succ n => rw [rClsGo, if_neg (fun k => he (he1 ▸ k.1))]
            rw [e2]
            exact .inr (.inl ⟨he, he1, he2⟩)
          · exact .inr (.inl ⟨he, he1, he2⟩)
    · have h93' : isR G s 93 = true := by simpa using h93
      rw [if_neg (fun k => h93 k.2), if_neg (fun k => h93 ((isR_i h.i 93) ▸ k.2.2))]
      exact .inl ⟨h, rfl, rfl, rfl, h93'⟩
theorem cls_rel (F : Fx G) (h : At G deep s t) (hg : s.groups ≤ 4) (hl : s.i < G.length) : Rel G deep (clsF G s) ((rCls G t.next s.i).1, [ndC (rCls G t.next s.i).2]) := by
  have hn := h.next hl
  have hk := hn.skip 94
  have hgk : (skipS G s.next 94).groups ≤ 4 := by unfold skipS; split <;> exact hg
  have hc : RelC G deep s.i (clsGo G s.i (G.length + 2 - (skipS G s.next 94).i) (skipS G s.next 94) [] true) (rClsGo G (G.length + 2 - (skipS G s.next 94).i) (skipS G t.next 94) [] false) := clsGo_rel F s.i (G.length + 2 - (skipS G s.next 94).i) _ _ [] true hk hgk (by omega)
  have hend := clsGo_end (G := G) s.i (G.length + 2 - (skipS G s.next 94).i) (skipS G s.next 94) [] true hk.le hgk (.inl (by have := hk.le; omega))
  unfold clsF rCls
  simp only
  rw [isR_i hn.i, hk.i]
  generalize clsGo G s.i (G.length + 2 - (skipS G s.next 94).i) (skipS G s.next 94) [] true = a at hc hend ⊢
  generalize rClsGo G (G.length + 2 - (skipS G s.next 94).i) (skipS G t.next 94) [] false = b at hc ⊢
  obtain ⟨a1, a2, a3, a4⟩ := a
  obtain ⟨b1, b2, b3⟩ := b
  simp only at hc hend ⊢
  rcases hc with ⟨hA, q1, q2, q3, h93⟩ | ⟨he, he1, he2⟩ | ⟨he, hw, he1, h93⟩
  · simp only at q1 q2 q3
    subst q1 q2 q3
    simp only [Bool.false_eq_true, if_false]
    simp only at hA h93
    rw [if_neg (by rw [hA.e]; simp)]
    cases a3
    · have hu : (if b1.err = 0 ∧ ((!false) = false ∨ isR G b1 93 = false) then b1.wrong G s.i 4 else b1) = b1 := if_neg (by rw [isR_i hA.i, h93]; simp)
      rw [hu]
      refine .inl ⟨hA.next (isR_lt' h93), ?_⟩
      simp only [F.not]
      rfl
    · have hu : (if b1.err = 0 ∧ ((!true) = false ∨ isR G b1 93 = false) then b1.wrong G s.i 4 else b1) = b1.wrong G s.i 4 := if_pos ⟨hA.e2, .inl rfl⟩
      rw [hu, if_pos rfl, wrong_of hA.e, wrong_of hA.e2]
      exact .inr ⟨by simp, rfl, rfl⟩
  · simp only at he he1 he2
    have hu : (if b1.err = 0 ∧ (b3 = false ∨ isR G b1 93 = false) then b1.wrong G s.i 4 else b1) = b1 := if_neg (fun k => he (he1 ▸ k.1))
    rw [hu]
    have hx : (if a4 = true then (a1, ([] : List Nd)) else if a1.err ≠ 0 then (a1, []) else if a3 = true then (a1.wrong G s.i 4, []) else (a1.next, [ndC (if isR G s.next 94 = true then notF (makeF a2) else makeF a2)])) = (a1, []) := by
      rw [if_pos he]; split <;> rfl
    rw [hx]
    exact .inr ⟨he, he1, he2⟩
  · simp only at he hw he1 h93
    have hu : (if b1.err = 0 ∧ (b3 = false ∨ isR G b1 93 = false) then b1.wrong G s.i 4 else b1) = b1.wrong G s.i 4 := if_pos ⟨he1, .inr h93⟩
    have hx : (if a4 = true then (a1, ([] : List Nd)) else if a1.err ≠ 0 then (a1, []) else if a3 = true then (a1.wrong G s.i 4, []) else (a1.next, [ndC (if isR G s.next 94 = true then notF (makeF a2) else makeF a2)])) = (a1, []) := by
      have he4 : a1.err ≠ 0 := by rw [he]; decide
      rw [if_pos he4]; split <;> rfl
    rw [hu, wrong_of he1, hx]
    exact .inr ⟨by simp only; rw [he]; decide, he.symm, hw.symm⟩
/-- The numbers of a repeat. -/
def RelN (G : List Gt) (deep : Nat) (a b : Ps × Int × Int) : Prop := (At G deep a.1 b.1 ∧ b.2 = a.2) ∨ (a.1.err ≠ 0 ∧ b.1.err = a.1.err ∧ b.1.wh = a.1.wh)
theorem often2_rel (h : At G deep s t) (frm : Nat) (m n : List UInt8) (ok en : Bool) (hen : en = true → n = []) : RelN G deep (often2 G frm s m n ok en) (rCounts2 G frm t m n ok en) := by
  have key : ∀ (u : Ps) (c : Prop) [Decidable c] (z : Int × Int) (a : Ps × Int × Int), a.1.err ≠ 0 → u.err = a.1.err → u.wh = a.1.wh → RelN G deep a ((if c then u.next.wrong G frm 2 else u.next), z) := by
    intro u c _ z a h1 h2 h3
    refine .inr ⟨h1, ?_⟩
    split
    · have e : u.next.wrong G frm 2 = u.next := by unfold Ps.wrong; rw [if_neg (by show ¬ u.err = 0; rw [h2]; exact h1)]
      show (u.next.wrong G frm 2).err = _ ∧ (u.next.wrong G frm 2).wh = _
      rw [e]
      exact ⟨h2, h3⟩
    · exact ⟨h2, h3⟩
  have e1 : ∀ (x : Ps), x.err = 0 → (x.wrong G frm 4).err ≠ 0 := fun x hx => by rw [wrong_of hx]; simp
  have e2 : ∀ (x y : Ps), x.err = 0 → y.err = 0 → (y.wrong G frm 4).err = (x.wrong G frm 4).err ∧ (y.wrong G frm 4).wh = (x.wrong G frm 4).wh := fun x y hx hy => by rw [wrong_of hx, wrong_of hy]; exact ⟨rfl, rfl⟩
  unfold often2 rCounts2
  simp only
  rw [isR_i h.i]
  by_cases c1 : ok = false
  · rw [if_pos c1]
    have ht : (if ok = false ∨ isR G s 125 = false ∨ en = false ∧ lessB n m = true then t.wrong G frm 4 else t) = t.wrong G frm 4 := if_pos (.inl c1)
    rw [ht]
    exact key _ _ _ _ (e1 s h.e) (e2 s t h.e h.e2).1 (e2 s t h.e h.e2).2
  rw [if_neg c1]
  by_cases c2 : isR G s 125 = false
  · rw [if_pos c2]
    have ht : (if ok = false ∨ isR G s 125 = false ∨ en = false ∧ lessB n m = true then t.wrong G frm 4 else t) = t.wrong G frm 4 := if_pos (.inr (.inl c2))
    rw [ht]
    exact key _ _ _ _ (e1 s h.e) (e2 s t h.e h.e2).1 (e2 s t h.e h.e2).2
  rw [if_neg c2]
  have hlt := isR_lt' (by simpa using c2)
  have hN := h.next hlt
  by_cases c3 : en = false ∧ lessB n m = true
  · rw [if_pos c3]
    have ht : (if ok = false ∨ isR G s 125 = false ∨ en = false ∧ lessB n m = true then t.wrong G frm 4 else t) = t.wrong G frm 4 := if_pos (.inr (.inr c3))
    rw [ht]
    exact key _ _ _ _ (e1 s.next hN.e) (e2 s.next t hN.e h.e2).1 (e2 s.next t hN.e h.e2).2
  have ht : (if ok = false ∨ isR G s 125 = false ∨ en = false ∧ lessB n m = true then t.wrong G frm 4 else t) = t := if_neg (by rintro (k | k | k); exact c1 k; exact c2 k; exact c3 k)
  rw [if_neg c3, ht]
  have hv : valF [] = (0, true) := by decide
  cases en
  · simp only [Bool.false_eq_true, if_false]
    by_cases c4 : (valF m).2 = false ∨ (valF n).2 = false
    · rw [if_pos c4, if_pos c4, wrong_of hN.e, wrong_of hN.e2]
      exact .inr ⟨by simp, rfl, rfl⟩
    · rw [if_neg c4, if_neg c4]
      exact .inl ⟨hN, rfl⟩
  · simp only [if_true, hv]
    by_cases c4 : (valF m).2 = false
    · rw [if_pos (.inl c4), if_pos (.inl c4), wrong_of hN.e, wrong_of hN.e2]
      exact .inr ⟨by simp, rfl, rfl⟩
    · rw [if_neg (by rintro (k | k); exact c4 k; cases k), if_neg (by rintro (k | k); exact c4 k; cases k)]
      exact .inl ⟨hN, rfl⟩
theorem digs_i (h : t.i = s.i) : digB G t = digB G s ∧ digK G t = digK G s ∧ (digS G t).i = (digS G s).i := by
  unfold digB digK digS
  rw [h]
  exact ⟨rfl, rfl, rfl⟩
theorem At.digs (h : At G deep s t) : At G deep (digS G s) (digS G t) := by
  have hle := digGo_le (G := G) (G.length - s.i) s.i []
  have := h.le
  refine ⟨h.e, h.e2, (digs_i h.i).2.2, h.g, h.o, ?_⟩
  show (digGo G (G.length - s.i) s.i []).1 ≤ _
  omega
theorem digGo_same : ∀ (n i : Nat) (b : List UInt8), (digGo G n i b).1 = i → (digGo G n i b).2 = b
  | 0, i, b, h => rfl
  | n + 1, i, b, h => by
    unfold digGo at h ⊢
    split
    · rename_i hc
      rw [if_pos hc] at h
      have := (digGo_le (G := G) n (i + 1) (if 48 < runeAt G i ∨ b ≠ [] then b ++ [UInt8.ofNat (runeAt G i).toNat] else b)).1
      omega
    · rfl
theorem digK_none {x : Ps} (h : digK G x = false) : digB G x = [] := by
  unfold digK at h
  unfold digB
  refine digGo_same _ _ _ ?_
  have := (digGo_le (G := G) (G.length - x.i) x.i []).1
  have : ¬ x.i < (digGo G (G.length - x.i) x.i []).1 := by simpa using h
  omega
theorem often_rel (h : At G deep s t) (hl : s.i < G.length) : RelN G deep (oftenF G s) (rCounts G t) := by
  have hn := h.next hl
  obtain ⟨d1, d2, d3⟩ := digs_i (G := G) hn.i
  have hd := hn.digs
  unfold oftenF rCounts
  simp only
  rw [d1, d2, isR_i hd.i, h.i]
  by_cases hc : digK G s.next = true ∧ isR G (digS G s.next) 44 = true
  · rw [if_pos hc, if_pos hc]
    have hm := hd.next (isR_lt' hc.2)
    obtain ⟨f1, f2, f3⟩ := digs_i (G := G) hm.i
    rw [f1, f2]
    exact often2_rel hm.digs _ _ _ _ _ fun k => digK_none (by simpa using k)
  · rw [if_neg hc, if_neg hc]
    exact often2_rel hd _ _ _ _ _ fun k => by cases k
variable {alt altR : Ps → Ps × List Nd}
/-- The two parsers of what stands in brackets. -/
def AltR (G : List Gt) (deep : Nat) (alt altR : Ps → Ps × List Nd) : Prop := ∀ s t, At G deep s t → s.groups ≤ 4 → Rel G deep (alt s) (altR t)
theorem closed_rel (d : Nat) {a b : Ps × List Nd} (frm : Nat) (h : Rel G (d + 1) a b) :
    let s5 : Ps := { a.1 with opens := a.1.opens - 1 }
    (s5.err = 0 ∧ isR G s5 41 = false → (s5.wrong G frm 4).err ≠ 0 ∧ (rClosed G b.1 frm).err = (s5.wrong G frm 4).err ∧ (rClosed G b.1 frm).wh = (s5.wrong G frm 4).wh) ∧
      (¬ (s5.err = 0 ∧ isR G s5 41 = false) → (At G d s5.next (rClosed G b.1 frm) ∧ s5.err = 0 ∧ b.2 = a.2) ∨ (s5.err ≠ 0 ∧ (rClosed G b.1 frm).err = s5.err ∧ (rClosed G b.1 frm).wh = s5.wh)) := by
  simp only
  unfold rClosed
  rcases h with ⟨h, hx⟩ | ⟨he, he1, he2⟩
  · have h5 : At G d { a.1 with opens := a.1.opens - 1 } b.1 := ⟨h.e, h.e2, h.i, h.g, by show a.1.opens - 1 = d; rw [h.o]; omega, h.le⟩
    refine ⟨fun hc => ?_, fun hc => ?_⟩
    · rw [if_pos ⟨h.e2, (isR_i h5.i 41).trans hc.2⟩, wrong_of h5.e, wrong_of h.e2]
      exact ⟨by simp, rfl, rfl⟩
    · have h41 : isR G { a.1 with opens := a.1.opens - 1 } 41 = true := by
        cases hq : isR G { a.1 with opens := a.1.opens - 1 } 41
        · exact absurd ⟨h5.e, hq⟩ hc
        · rfl
      rw [if_neg (by rw [(isR_i h5.i 41).trans h41]; simp)]
      exact .inl ⟨h5.next (isR_lt' h41), h5.e, hx⟩
  · refine ⟨fun hc => absurd hc.1 he, fun _ => ?_⟩
    rw [if_neg (fun k => he (he1 ▸ k.1))]
    exact .inr ⟨he, he1, he2⟩
theorem group_rel (A : AltR G (deep + 1) alt altR) (h : At G deep s t) (hg : s.groups ≤ 4) (hl : s.i < G.length) : Rel G deep (groupF G alt s) (rGroup G altR deep t.next s.i) := by
  have hn := h.next hl
  unfold groupF rGroup
  simp only
  rw [isR_i hn.i]
  cases h63 : isR G s.next 63
  · simp only [Bool.false_eq_true, if_false, false_and]
    by_cases c1 : 20 ≤ s.next.opens
    · rw [if_pos c1, if_pos (show 20 ≤ deep by have := hn.o; omega)]
      exact rel_wrong hn.e hn.e2 (by decide)
    rw [if_neg c1, if_neg (show ¬ 20 ≤ deep by have := hn.o; omega)]
    by_cases c2 : 4 ≤ s.next.groups
    · rw [if_pos (show True ∧ 4 ≤ s.next.groups from ⟨trivial, c2⟩), if_pos (show 4 ≤ t.next.groups by rw [hn.g]; exact c2)]
      exact rel_wrong hn.e hn.e2 (by decide)
    rw [if_neg (show ¬ (True ∧ 4 ≤ s.next.groups) from fun k => c2 k.2), if_neg (show ¬ 4 ≤ t.next.groups by rw [hn.g]; exact c2)]
    have ha := A { { s.next with groups := s.next.groups + 1 } with opens := s.next.opens + 1 } { t.next with groups := t.next.groups + 1 } ⟨hn.e, hn.e2, hn.i, by show t.next.groups + 1 = s.next.groups + 1; rw [hn.g], by show s.next.opens + 1 = deep + 1; rw [hn.o], hn.le⟩ (by show s.next.groups + 1 ≤ 4; omega)
    have hgr : ((t.next.groups + 1 : Nat) : Int) = ((s.next.groups + 1 : Nat) : Int) := by rw [hn.g]
    obtain ⟨k1, k2⟩ := closed_rel deep s.i ha
    split
    · rename_i hc
      obtain ⟨q1, q2, q3⟩ := k1 hc
      exact .inr ⟨q1, q2, q3⟩
    · rename_i hc
      rcases k2 hc with ⟨q1, q2, q3⟩ | ⟨q1, q2, q3⟩
      · rw [if_pos q2]
        refine .inl ⟨q1, ?_⟩
        show _ :: _ = _ :: _
        rw [q3]
        congr 2
      · rw [if_neg q1]
        exact .inr ⟨q1, q2, q3⟩
  · simp only [if_true, true_and]
    have h63' := isR_lt' h63
    have hm := hn.next h63'
    rw [isR_i hm.i]
    by_cases c0 : isR G s.next.next 58 = false
    · rw [if_pos c0, if_pos c0]
      exact rel_wrong hm.e hn.e2 (by decide)
    rw [if_neg c0, if_neg c0]
    have c0' : isR G s.next.next 58 = true := by simpa using c0
    have hq := hm.next (isR_lt' c0')
    by_cases c1 : 20 ≤ s.next.next.next.opens
    · rw [if_pos c1, if_pos (show 20 ≤ deep by have := hq.o; omega)]
      exact rel_wrong hq.e hn.e2 (by decide)
    rw [if_neg c1, if_neg (show ¬ 20 ≤ deep by have := hq.o; omega), if_neg (show ¬ (true = false ∧ 4 ≤ s.next.next.next.groups) by simp)]
    have ha := A { s.next.next.next with opens := s.next.next.next.opens + 1 } t.next.next.next ⟨hq.e, hq.e2, hq.i, hq.g, by show s.next.next.next.opens + 1 = deep + 1; rw [hq.o], hq.le⟩ hg
    obtain ⟨k1, k2⟩ := closed_rel deep s.i ha
    split
    · rename_i hc
      obtain ⟨q1, q2, q3⟩ := k1 hc
      exact .inr ⟨q1, q2, q3⟩
    · rename_i hc
      rcases k2 hc with ⟨q1, q2, q3⟩ | ⟨q1, q2, q3⟩
      · rw [if_pos q2]
        exact .inl ⟨q1, q3⟩
      · rw [if_neg q1]
        exact .inr ⟨q1, q2, q3⟩
theorem atom_rel (F : Fx G) (A : AltR G (deep + 1) alt altR) (h : At G deep s t) (hg : s.groups ≤ 4) (hl : s.i < G.length) : Rel G deep (atomF G alt s) (rAtom G altR deep t) := by
  have hn := h.next hl
  have hr := F.one s.i hl
  unfold atomF rAtom
  simp only
  rw [h.i]
  by_cases h2 : badB G s.i = true
  · rw [if_pos h2, if_pos h2]
    exact rel_wrong h.e hn.e2 (by decide)
  rw [if_neg h2, if_neg h2]
  generalize runeAt G s.i = r at hr ⊢
  by_cases c1 : r = 40
  · rw [if_pos c1, if_pos c1]
    exact group_rel A h hg hl
  rw [if_neg c1, if_neg c1]
  by_cases c2 : r = 91
  · rw [if_pos c2, if_pos c2]
    exact cls_rel F h hg hl
  rw [if_neg c2, if_neg c2]
  by_cases c3 : r = 46
  · subst c3
    rw [if_neg (show ¬ (46 : Int) = 92 by decide), if_pos rfl, if_pos rfl]
    exact .inl ⟨hn, rfl⟩
  rw [if_neg c3, if_neg c3]
  by_cases c4 : r = 94
  · subst c4
    rw [if_neg (show ¬ (94 : Int) = 92 by decide), if_pos rfl, if_pos rfl]
    exact .inl ⟨hn, rfl⟩
  rw [if_neg c4, if_neg c4]
  by_cases c5 : r = 36
  · subst c5
    rw [if_neg (show ¬ (36 : Int) = 92 by decide), if_pos rfl, if_pos rfl]
    exact .inl ⟨hn, rfl⟩
  rw [if_neg c5, if_neg c5]
  by_cases c6 : r = 92
  · rw [if_pos c6, if_pos c6]
    obtain ⟨hs, _⟩ := sign_rel F h hl
    rcases hs with ⟨hA, he⟩ | ⟨he, he1, he2⟩
    · refine .inl ⟨hA, ?_⟩
      show [ndC (rEsc G t.next s.i).2] = [ndC (signF G s).2.1]
      rw [he]
    · exact .inr ⟨he, he1, he2⟩
  rw [if_neg c6, if_neg c6]
  by_cases c7 : r = 42 ∨ r = 43 ∨ r = 63 ∨ r = 41 ∨ r = 93 ∨ r = 123 ∨ r = 125 ∨ r = 124
  · rw [if_pos c7, if_pos (by omega)]
    exact rel_wrong h.e hn.e2 (by decide)
  · rw [if_neg c7, if_neg (by omega), hr]
    exact .inl ⟨hn, rfl⟩
theorem rep2_rel {a b : Ps × Int × Int} (h : RelN G deep a b) (x : List Nd) : Rel G deep (rep2 G a.1 a.2.1 a.2.2 x) (rRep2 G b.1 b.2.1 b.2.2 x) := by
  unfold rep2 rRep2
  rcases h with ⟨h, hx⟩ | ⟨he, he1, he2⟩
  · rw [if_neg (by rw [h.e]; simp), hx, isR_i h.i]
    exact .inl ⟨h.skip 63, rfl⟩
  · rw [if_pos he]
    refine .inr ⟨he, ?_⟩
    unfold skipS
    split <;> exact ⟨he1, he2⟩
theorem rep_rel (F : Fx G) (A : AltR G (deep + 1) alt altR) (h : At G deep s t) (hg : s.groups ≤ 4) (hl : s.i < G.length) : Rel G deep (repF G alt s) (rRep G altR deep t) := by
  have ha := atom_rel F A h hg hl
  unfold repF rRep
  simp only
  generalize atomF G alt s = a at ha ⊢
  generalize rAtom G altR deep t = b at ha ⊢
  obtain ⟨a1, a2⟩ := a
  obtain ⟨b1, b2⟩ := b
  rcases ha with ⟨hA, he⟩ | ⟨he, he1, he2⟩
  · simp only at hA he ⊢
    subst he
    rw [if_neg (by rw [hA.e]; simp)]
    by_cases hle : G.length ≤ b1.i
    · rw [if_pos (show b1.err ≠ 0 ∨ G.length ≤ b1.i from .inr hle)]
      have hx : ∀ r, isR G a1 r = false := fun r => by
        cases hq : isR G a1 r
        · rfl
        · have := isR_lt' hq; have := hA.i; omega
      rw [hx, hx, hx, hx]
      simp only [Bool.false_eq_true, if_false]
      exact .inl ⟨hA, rfl⟩
    · rw [if_neg (show ¬ (b1.err ≠ 0 ∨ G.length ≤ b1.i) by rw [hA.e2]; simp; omega)]
      have hlt : a1.i < G.length := by have := hA.i; omega
      have hN := hA.next hlt
      rw [isR_i hA.i, isR_i hA.i, isR_i hA.i, isR_i hA.i]
      by_cases c1 : isR G a1 42 = true
      · rw [if_pos c1, if_pos c1]
        exact rep2_rel (a := (a1.next, 0, -1)) (b := (b1.next, 0, -1)) (.inl ⟨hN, rfl⟩) b2
      rw [if_neg c1, if_neg c1]
      by_cases c2 : isR G a1 43 = true
      · rw [if_pos c2, if_pos c2]
        exact rep2_rel (a := (a1.next, 1, -1)) (b := (b1.next, 1, -1)) (.inl ⟨hN, rfl⟩) b2
      rw [if_neg c2, if_neg c2]
      by_cases c3 : isR G a1 63 = true
      · rw [if_pos c3, if_pos c3]
        exact rep2_rel (a := (a1.next, 0, 1)) (b := (b1.next, 0, 1)) (.inl ⟨hN, rfl⟩) b2
      rw [if_neg c3, if_neg c3]
      by_cases c4 : isR G a1 123 = true
      · rw [if_pos c4, if_pos c4]
        exact rep2_rel (often_rel hA hlt) b2
      rw [if_neg c4, if_neg c4]
      exact .inl ⟨hA, rfl⟩
  · simp only at he he1 he2 ⊢
    rw [if_pos he, if_pos (show b1.err ≠ 0 ∨ G.length ≤ b1.i from .inl (by rw [he1]; exact he))]
    exact .inr ⟨he, he1, he2⟩
/-- At depth 0 the document's parser stops at a bracket that was never opened. -/
def RelA {α : Type} (G : List Gt) (deep : Nat) (a b : Ps × α) : Prop := Rel G deep a b ∨ (deep = 0 ∧ a.1.err = 4 ∧ a.1.wh = place G b.1.i ∧ b.1.err = 0 ∧ isR G b.1 41 = true)
theorem catGo_err {n : Nat} {x : Ps} {ps : List (List Nd)} (h : x.err ≠ 0) : catGo G alt n x ps = (x, ps) := by
  cases n with
  | zero => rfl
  | succ n => rw [catGo, if_neg (fun k => h k.1)]
theorem rCatGo_err {n : Nat} {x : Ps} {ps : List (List Nd)} (h : x.err ≠ 0) : rCatGo G altR deep n x ps = (x, ps) := by
  cases n with
  | zero => rfl
  | succ n => rw [rCatGo, if_neg (fun k => h k.1)]
theorem altGo_err {n : Nat} {x : Ps} {ps : List (List Nd)} (h : x.err ≠ 0) : altGo G alt n x ps = (x, ps) := by
  cases n with
  | zero => rfl
  | succ n => rw [altGo, if_neg (fun k => h k.1)]
theorem rAltGo_stop {n : Nat} {x : Ps} {ps : List (List Nd)} (h : x.err ≠ 0 ∨ isR G x 124 = false) : rAltGo G altR deep n x ps = (x, ps) := by
  cases n with
  | zero => rfl
  | succ n => rw [rAltGo, if_neg (by rintro ⟨k1, k2⟩; rcases h with h | h; exact h k1; rw [h] at k2; cases k2)]
theorem catGo_rel (F : Fx G) (A : AltR G (deep + 1) alt altR) (O : AltOk G alt) : ∀ (n : Nat) (s t : Ps) (ps : List (List Nd)), At G deep s t → s.groups ≤ 4 → RelA G deep (catGo G alt n s ps) (rCatGo G altR deep n t ps)
  | 0, s, t, ps, h, hg => .inl (.inl ⟨h, rfl⟩)
  | n + 1, s, t, ps, h, hg => by
    unfold catGo rCatGo
    rw [isR_i h.i, isR_i h.i, h.i]
    by_cases c1 : s.i < G.length ∧ isR G s 124 = false
    · by_cases c2 : isR G s 41 = true
      · rw [if_neg (fun k : t.err = 0 ∧ _ => by rw [c2] at k; cases k.2.2.2)]
        by_cases c3 : 0 < s.opens
        · rw [if_neg (fun k => k.2.2.2 ⟨c2, c3⟩)]
          exact .inl (.inl ⟨h, rfl⟩)
        · rw [if_pos ⟨h.e, c1.1, c1.2, fun k => c3 k.2⟩]
          have h41 : runeAt G s.i = 41 := by simpa [isR_run c1.1] using c2
          have ea : atomF G alt s = (s.wrong G s.i 4, []) := by
            unfold atomF
            simp only [h41]
            rw [bad_of c1.1 (by omega)]
            simp
          have er : repF G alt s = (s.wrong G s.i 4, []) := by
            unfold repF
            simp only [ea]
            rw [if_pos (by rw [wrong_of h.e]; simp)]
          rw [er]
          simp only
          rw [catGo_err (by rw [wrong_of h.e]; simp)]
          refine .inr ⟨by have := h.o; omega, by rw [wrong_of h.e], by rw [wrong_of h.e]; show _ = place G t.i; rw [h.i], h.e2, (isR_i h.i 41).trans c2⟩
      · have c2' : isR G s 41 = false := by simpa using c2
        rw [if_pos ⟨h.e, c1.1, c1.2, fun k => c2 k.1⟩, if_pos ⟨h.e2, c1.1, c1.2, c2'⟩]
        have hr := rep_rel F A h hg c1.1
        have hgm := (repF_adv O c1.1 hg).1.gm
        generalize repF G alt s = a at hr hgm ⊢
        generalize rRep G altR deep t = b at hr ⊢
        obtain ⟨a1, a2⟩ := a
        obtain ⟨b1, b2⟩ := b
        rcases hr with ⟨hA, he⟩ | ⟨he, he1, he2⟩
        · simp only at hA he hgm ⊢
          subst he
          exact catGo_rel F A O n a1 b1 _ hA hgm
        · simp only at he he1 he2 ⊢
          rw [catGo_err he, rCatGo_err (by rw [he1]; exact he)]
          exact .inl (.inr ⟨he, he1, he2⟩)
    · rw [if_neg (fun k => c1 ⟨k.2.1, k.2.2.1⟩), if_neg (fun k => c1 ⟨k.2.1, k.2.2.1⟩)]
      exact .inl (.inl ⟨h, rfl⟩)
theorem relA_map {α β : Type} {a b : Ps × α} (f : α → β) (h : RelA G deep a b) : RelA G deep (a.1, f a.2) (b.1, f b.2) := by
  rcases h with (⟨h, hx⟩ | h) | h
  · exact .inl (.inl ⟨h, by show f b.2 = f a.2; rw [hx]⟩)
  · exact .inl (.inr h)
  · exact .inr h
theorem cat_rel (F : Fx G) (A : AltR G (deep + 1) alt altR) (O : AltOk G alt) (h : At G deep s t) (hg : s.groups ≤ 4) : RelA G deep (catF G alt s) (rCat G altR deep t) := by
  unfold catF rCat
  simp only
  rw [h.i]
  exact relA_map (joined 3) (catGo_rel F A O _ s t [] h hg)
theorem altGo_rel (F : Fx G) (A : AltR G (deep + 1) alt altR) (O : AltOk G alt) : ∀ (n : Nat) (s t : Ps) (ps : List (List Nd)), At G deep s t → s.groups ≤ 4 → RelA G deep (altGo G alt n s ps) (rAltGo G altR deep n t ps)
  | 0, s, t, ps, h, hg => .inl (.inl ⟨h, rfl⟩)
  | n + 1, s, t, ps, h, hg => by
    unfold altGo rAltGo
    rw [isR_i h.i]
    by_cases c1 : isR G s 124 = true
    · rw [if_pos ⟨h.e, c1⟩, if_pos ⟨h.e2, c1⟩]
      have hN := h.next (isR_lt' c1)
      have hr := cat_rel F A O hN hg
      have hgm := (catF_adv O (s := s.next) hN.le hg).1.gm
      generalize catF G alt s.next = a at hr hgm ⊢
      generalize rCat G altR deep t.next = b at hr ⊢
      obtain ⟨a1, a2⟩ := a
      obtain ⟨b1, b2⟩ := b
      rcases hr with (⟨hA, he⟩ | ⟨he, he1, he2⟩) | ⟨hd, he, he1, he2, he3⟩
      · simp only at hA he hgm ⊢
        subst he
        exact altGo_rel F A O n a1 b1 _ hA hgm
      · simp only at he he1 he2 ⊢
        rw [altGo_err he, rAltGo_stop (.inl (by rw [he1]; exact he))]
        exact .inl (.inr ⟨he, he1, he2⟩)
      · simp only at he he1 he2 he3 ⊢
        have h124 : isR G b1 124 = false := by
          have hlt := isR_lt' he3
          rw [isR_run hlt] at he3 ⊢
          simp only [beq_iff_eq] at he3
          rw [he3]; rfl
        rw [altGo_err (by rw [he]; decide), rAltGo_stop (.inr h124)]
        exact .inr ⟨hd, he, he1, he2, he3⟩
    · rw [if_neg (fun k => c1 k.2), if_neg (fun k => c1 k.2)]
      exact .inl (.inl ⟨h, rfl⟩)
theorem alt1_rel (F : Fx G) (A : AltR G (deep + 1) alt altR) (O : AltOk G alt) (h : At G deep s t) (hg : s.groups ≤ 4) : RelA G deep (alt1 G alt s) (rAlt1 G altR deep t) := by
  have hr := cat_rel F A O h hg
  have hgm := (catF_adv O (s := s) h.le hg).1.gm
  unfold alt1 rAlt1
  simp only
  generalize catF G alt s = a at hr hgm ⊢
  generalize rCat G altR deep t = b at hr ⊢
  obtain ⟨a1, a2⟩ := a
  obtain ⟨b1, b2⟩ := b
  rcases hr with (⟨hA, he⟩ | ⟨he, he1, he2⟩) | ⟨hd, he, he1, he2, he3⟩
  · simp only at hA he hgm ⊢
    subst he
    rw [hA.i]
    exact relA_map (joined 4) (altGo_rel F A O _ a1 b1 [b2] hA hgm)
  · simp only at he he1 he2 ⊢
    rw [altGo_err he, rAltGo_stop (.inl (by rw [he1]; exact he))]
    exact .inl (.inr ⟨he, he1, he2⟩)
  · simp only at he he1 he2 he3 ⊢
    have h124 : isR G b1 124 = false := by
      have hlt := isR_lt' he3
      rw [isR_run hlt] at he3 ⊢
      simp only [beq_iff_eq] at he3
      rw [he3]; rfl
    rw [altGo_err (by rw [he]; decide), rAltGo_stop (.inr h124)]
    exact .inr ⟨hd, he, he1, he2, he3⟩
theorem alt_rel (F : Fx G) : ∀ (n deep : Nat) (s t : Ps), At G deep s t → s.groups ≤ 4 → RelA G deep (altF G n s) (rAlt G n deep t)
  | 0, deep, s, t, h, hg => .inl (.inl ⟨h, rfl⟩)
  | n + 1, deep, s, t, h, hg => by
    refine alt1_rel F (fun s t h hg => ?_) (altF_ok n) h hg
    rcases alt_rel F n (deep + 1) s t h hg with h1 | h1
    · exact h1
    · exact absurd h1.1 (by omega)
def fin (G : List Gt) (a : Ps × List Nd) : List Nd × Int × Int :=
  let s := if a.1.err = 0 ∧ a.1.i < G.length then a.1.wrong G a.1.i 4 else a.1
  if s.err ≠ 0 then ([], s.err, s.wh) else (a.2, 0, 0)
theorem fin_rest {t : Ps} {ls : List Nd} (he : t.err = 0) (hi : t.i < G.length) : fin G (t, ls) = ([], 4, place G t.i) := by simp [fin, he, hi, Ps.wrong]
theorem fin_ok {t : Ps} {ls : List Nd} (he : t.err = 0) (hi : ¬ t.i < G.length) : fin G (t, ls) = (ls, 0, 0) := by simp [fin, he, hi]
theorem fin_err {t : Ps} {ls : List Nd} (he : t.err ≠ 0) : fin G (t, ls) = ([], t.err, t.wh) := by simp [fin, he]
/-- Both read a text alike. -/
theorem rParse_eq (F : Fx G) : rParse G = parseG G := by
  have h := alt_rel F 21 0 ps0 ps0 ⟨rfl, rfl, rfl, rfl, rfl, Nat.zero_le _⟩ (by decide)
  show fin G (rAlt G 21 0 ps0) = fin G (altF G 21 ps0)
  generalize altF G 21 ps0 = a at h ⊢
  generalize rAlt G 21 0 ps0 = b at h ⊢
  obtain ⟨a1, a2⟩ := a
  obtain ⟨b1, b2⟩ := b
  rcases h with (⟨hA, he⟩ | ⟨he, he1, he2⟩) | ⟨hd, he, he1, he2, he3⟩
  · simp only at hA he
    subst he
    by_cases c : a1.i < G.length
    · rw [fin_rest hA.e2 (by rw [hA.i]; exact c), fin_rest hA.e c, hA.i]
    · rw [fin_ok hA.e2 (by rw [hA.i]; exact c), fin_ok hA.e c]
  · simp only at he he1 he2
    rw [fin_err (by rw [he1]; exact he), fin_err he, he1, he2]
  · simp only at he he1 he2 he3
    rw [fin_rest he2 (isR_lt' he3), fin_err (by rw [he]; decide), he, he1]
end
end Go.Proofs.YtooockbfagkknaaGreatDoor.syn
/- A text of letters as a row of classes; brackets that do not count. -/
namespace Go.Proofs.YtooockbfagkknaaGreatDoor.syn
open Go.RowKit Go.Proofs.YtooockbfagkknaaGreatDoor.sl Go.Proofs.YtooockbfagkknaaGreatDoor.cls
section
variable {G : List Gt}
/-- letters, digits, the blank and the low line -/
def letR (r : Int) : Bool := decide (97 ≤ r) && decide (r ≤ 122) || decide (65 ≤ r) && decide (r ≤ 90) || decide (48 ≤ r) && decide (r ≤ 57) || r == 32 || r == 95
theorem letR_iff {r : Int} : letR r = true ↔ (97 ≤ r ∧ r ≤ 122) ∨ (65 ≤ r ∧ r ≤ 90) ∨ (48 ≤ r ∧ r ≤ 57) ∨ r = 32 ∨ r = 95 := by
  simp [letR, or_assoc]
/-- no sign of repetition stands at a place -/
def noRep (G : List Gt) (s : Ps) : Prop := isR G s 42 = false ∧ isR G s 43 = false ∧ isR G s 63 = false ∧ isR G s 123 = false
theorem isR_get {s : Ps} {r : Int} {g : Gt} (h : G[s.i]? = some g) : isR G s r = (g.1 == r) := by unfold isR; rw [h]
theorem isR_none {s : Ps} {r : Int} (h : G[s.i]? = none) : isR G s r = false := by unfold isR; rw [h]
theorem runeAt_get {i : Nat} {g : Gt} (h : G[i]? = some g) : runeAt G i = g.1 := by unfold runeAt; rw [List.getD_eq_getElem?_getD, h]; rfl
theorem bad_get {i : Nat} {g : Gt} (h : G[i]? = some g) : badB G i = (g.1 == 65533 && g.2 == 1) := by unfold badB; rw [h]
theorem noRep_let {s : Ps} {g : Gt} (h : G[s.i]? = some g) (hl : letR g.1 = true ∨ g.1 = 41 ∨ g.1 = 124) : noRep G s := by
  unfold noRep
  rw [isR_get h, isR_get h, isR_get h, isR_get h]
  rw [letR_iff] at hl
  simp
  omega
theorem noRep_none {s : Ps} (h : G[s.i]? = none) : noRep G s := ⟨isR_none h, isR_none h, isR_none h, isR_none h⟩
variable {alt : Ps → Ps × List Nd}
theorem atom_let {s : Ps} {g : Gt} (h : G[s.i]? = some g) (hl : letR g.1 = true) : atomF G alt s = (s.next, [ndC (singleF g.1)]) := by
  unfold atomF
  rw [bad_get h, runeAt_get h]
  rw [letR_iff] at hl
  have h1 : (g.1 == 65533 && g.2 == 1) = false := by simp; omega
  rw [h1]
  simp only [Bool.false_eq_true, if_false]
  repeat rw [if_neg (by omega)]
theorem rep_none {s : Ps} {t : Ps × List Nd} (h : atomF G alt s = t) (he : t.1.err = 0) (hn : noRep G t.1) : repF G alt s = t := by
  unfold repF
  simp only [h]
  obtain ⟨h1, h2, h3, h4⟩ := hn
  rw [h1, h2, h3, h4]
  simp [he]
theorem rep_let {s : Ps} {g : Gt} (h : G[s.i]? = some g) (hl : letR g.1 = true) (he : s.err = 0) (hn : noRep G s.next) : repF G alt s = (s.next, [ndC (singleF g.1)]) :=
  rep_none (atom_let h hl) he hn
/-- where a cat stops -/
def stops (G : List Gt) (s : Ps) : Prop := G[s.i]? = none ∨ ∃ g, G[s.i]? = some g ∧ (g.1 = 124 ∨ g.1 = 41 ∧ 0 < s.opens)
theorem catGo_stop {s : Ps} (h : stops G s) (n : Nat) (ps : List (List Nd)) : catGo G alt n s ps = (s, ps) := by
  cases n with
  | zero => rfl
  | succ n =>
    rw [catGo, if_neg]
    rintro ⟨h1, h2, h3, h4⟩
    rcases h with h | ⟨g, h, h5 | ⟨h5, h6⟩⟩
    · rw [List.getElem?_eq_none_iff] at h; omega
    · rw [isR_get h, h5] at h3; cases h3
    · rw [isR_get h, h5] at h4; exact h4 ⟨rfl, h6⟩
theorem stops_noRep {s : Ps} (h : stops G s) : noRep G s := by
  rcases h with h | ⟨g, h, h5⟩
  · exact noRep_none h
  · exact noRep_let h (by omega)
def adv (s : Ps) (k : Nat) : Ps := { s with i := s.i + k }
theorem catGo_lets (rs : List Int) : ∀ (s : Ps) (n : Nat) (ps : List (List Nd)), s.err = 0 → rs.length ≤ n → (∀ k r, rs[k]? = some r → letR r = true ∧ ∃ g, G[s.i + k]? = some g ∧ g.1 = r) → stops G (adv s rs.length) →
    catGo G alt n s ps = (adv s rs.length, ps ++ rs.map fun r => [ndC (singleF r)]) := by
  induction rs with
  | nil =>
    intro s n ps he hn hr hs
    have := catGo_stop (alt := alt) hs n ps
    simpa [adv] using this
  | cons r rs ih =>
    intro s n ps he hn hr hs
    obtain ⟨m, rfl⟩ : ∃ m, n = m + 1 := ⟨n - 1, by simp at hn; omega⟩
    obtain ⟨h1, g, hg, rfl⟩ := hr 0 r rfl
    simp only [Nat.add_zero] at hg
    have hlt := (List.getElem?_eq_some_iff.1 hg).1
    have hx : isR G s 124 = false ∧ isR G s 41 = false := by
      rw [isR_get hg, isR_get hg]
      rw [letR_iff] at h1
      simp
      omega
    have hnr : noRep G s.next := by
      cases rs with
      | nil => exact stops_noRep hs
      | cons r2 rs =>
        obtain ⟨h2, g2, hg2, rfl⟩ := hr 1 r2 rfl
        exact noRep_let (s := s.next) hg2 (.inl h2)
    rw [catGo, if_pos ⟨he, hlt, hx.1, by rw [hx.2]; simp⟩, rep_let hg h1 he hnr]
    rw [ih s.next m _ he (by simp at hn; omega) (fun k r hk => by
      obtain ⟨h3, g3, h4, h5⟩ := hr (k + 1) r (by simpa using hk)
      exact ⟨h3, g3, by rw [← h4]; congr 1; show s.i + 1 + k = _; omega, h5⟩) (by
      have e : adv s.next rs.length = adv s (rs.length + 1) := by
        show ({ s with i := s.i + 1 + rs.length } : Ps) = { s with i := s.i + (rs.length + 1) }
        rw [show s.i + 1 + rs.length = s.i + (rs.length + 1) by omega]
      rw [e]; exact hs)]
    refine Prod.ext ?_ ?_
    · show ({ s with i := s.i + 1 + rs.length } : Ps) = { s with i := s.i + (rs.length + 1) }
      rw [show s.i + 1 + rs.length = s.i + (rs.length + 1) by omega]
    · simp
/-- A row of letters. -/
def rowN (rs : List Int) : List Nd := joined 3 (rs.map fun r => [ndC (singleF r)])
theorem alt1_cat {s t : Ps} {x : List Nd} (h : catF G alt s = (t, x)) (hb : isR G t 124 = false) : alt1 G alt s = (t, x) := by
  unfold alt1
  simp only [h]
  have : altGo G alt (G.length + 2 - t.i) t [x] = (t, [x]) := by
    cases G.length + 2 - t.i with
    | zero => rfl
    | succ n => rw [altGo, if_neg (by rw [hb]; simp)]
  rw [this]
  rfl
theorem cat_lets (rs : List Int) {s : Ps} (he : s.err = 0) (hi : s.i ≤ G.length) (hr : ∀ k r, rs[k]? = some r → letR r = true ∧ ∃ g, G[s.i + k]? = some g ∧ g.1 = r) (hs : stops G (adv s rs.length)) : catF G alt s = (adv s rs.length, rowN rs) := by
  unfold catF
  simp only
  have hlen : s.i + rs.length ≤ G.length := by
    cases h : rs.length with
    | zero => omega
    | succ k =>
      obtain ⟨_, g, hg, _⟩ := hr k rs[k] (List.getElem?_eq_getElem (by omega))
      have := (List.getElem?_eq_some_iff.1 hg).1
      omega
  rw [catGo_lets rs s _ [] he (by omega) hr hs]
  rfl
theorem alt_lets (n : Nat) (rs : List Int) {s : Ps} (he : s.err = 0) (hi : s.i ≤ G.length) (hr : ∀ k r, rs[k]? = some r → letR r = true ∧ ∃ g, G[s.i + k]? = some g ∧ g.1 = r) (hs : stops G (adv s rs.length)) (hb : isR G (adv s rs.length) 124 = false) :
    altF G (n + 1) s = (adv s rs.length, rowN rs) := alt1_cat (cat_lets rs he hi hr hs) hb
/-- what is in brackets that don't count -/
theorem group_free {s t : Ps} {x : List Nd} (h63 : isR G s.next 63 = true) (h58 : isR G s.next.next 58 = true) (ho : s.opens < 20) (h : alt { s.next.next.next with opens := s.opens + 1 } = (t, x)) (ht : t.err = 0) (hto : t.opens = s.opens + 1) (h41 : isR G t 41 = true) :
    groupF G alt s = ({ t.next with opens := s.opens }, x) := by
  unfold groupF
  simp only [h63, if_true]
  have e1 : isR G { t with opens := t.opens - 1 } 41 = true := h41
  rw [if_neg (by rw [h58]; simp), if_neg (by show ¬ 20 ≤ s.opens; omega), if_neg (by simp)]
  have e2 : alt { s.next.next.next with opens := s.next.next.next.opens + 1 } = (t, x) := h
  rw [e2]
  have e3 : ({ t with opens := t.opens - 1 } : Ps) = { t with opens := s.opens } := by rw [show t.opens - 1 = s.opens by omega]
  rw [if_neg (by simp only; rw [e1]; simp), if_pos (by simpa using ht)]
  simp only [e3]
  rfl
theorem cat_one {s t : Ps} {x : List Nd} (hi : s.i < G.length) (he : s.err = 0) (h1 : isR G s 124 = false) (h2 : ¬ (isR G s 41 = true ∧ 0 < s.opens)) (h : repF G alt s = (t, x)) (ht : stops G t) : catF G alt s = (t, x) := by
  unfold catF
  simp only
  obtain ⟨m, hm⟩ : ∃ m, G.length + 2 - s.i = m + 1 := ⟨G.length + 1 - s.i, by omega⟩
  rw [hm, catGo, if_pos ⟨he, hi, h1, h2⟩, h, catGo_stop ht]
  rfl
/-- one more pair of brackets that don't count -/
theorem alt_free (n : Nat) {s t : Ps} {x : List Nd} {g : Gt} (he : s.err = 0) (hg : G[s.i]? = some g) (hg1 : g.1 = 40) (h63 : isR G s.next 63 = true) (h58 : isR G s.next.next 58 = true) (ho : s.opens < 20)
    (h : altF G n { s.next.next.next with opens := s.opens + 1 } = (t, x)) (ht : t.err = 0) (hto : t.opens = s.opens + 1) (h41 : isR G t 41 = true) (hs : stops G { t.next with opens := s.opens }) (hb : isR G { t.next with opens := s.opens } 124 = false) :
    altF G (n + 1) s = ({ t.next with opens := s.opens }, x) := by
  have hlt := (List.getElem?_eq_some_iff.1 hg).1
  have hx : isR G s 124 = false ∧ isR G s 41 = false := by
    rw [isR_get hg, isR_get hg, hg1]; decide
  have hat : atomF G (altF G n) s = ({ t.next with opens := s.opens }, x) := by
    unfold atomF
    rw [bad_get hg, runeAt_get hg, hg1]
    simp only [if_true]
    rw [if_neg (by simp)]
    exact group_free h63 h58 ho h ht hto h41
  exact alt1_cat (cat_one hlt he hx.1 (by rw [hx.2]; simp) (rep_none hat ht (stops_noRep hs)) hs) hb
/-- Bytes below 128, as runes. -/
def asc (l : List UInt8) : List Gt := l.map fun c => ((c.toNat : Int), 1)
theorem asc_get {l : List UInt8} {i : Nat} {c : UInt8} (h : l[i]? = some c) : (asc l)[i]? = some ((c.toNat : Int), 1) := by simp [asc, h]
theorem parse_lets (t : List UInt8) (ht : ∀ c ∈ t, letR c.toNat = true) : parseG (asc t) = (rowN (t.map fun c => (c.toNat : Int)), 0, 0) := by
  have h := alt_lets (G := asc t) 20 (t.map fun c => (c.toNat : Int)) (s := ps0) rfl (Nat.zero_le _) (fun k r hk => by
    rw [List.getElem?_map, Option.map_eq_some_iff] at hk
    obtain ⟨c, hc, rfl⟩ := hk
    exact ⟨ht c (List.mem_of_getElem? hc), _, asc_get (by rw [← hc]; congr 1; show 0 + k = k; omega), rfl⟩) (.inl (by simp [adv, ps0, asc])) (isR_none (by simp [adv, ps0, asc]))
  unfold parseG
  rw [h]
  simp [adv, ps0, asc]
theorem parse_nested (t : List UInt8) (ht : ∀ c ∈ t, letR c.toNat = true) : parseG (asc ([40, 63, 58, 40, 63, 58] ++ t ++ [41, 41])) = (rowN (t.map fun c => (c.toNat : Int)), 0, 0) := by
  generalize hG : asc ([40, 63, 58, 40, 63, 58] ++ t ++ [41, 41]) = G
  have hat : ∀ (i : Nat) (c : UInt8), ([40, 63, 58, 40, 63, 58] ++ t ++ [41, 41] : List UInt8)[i]? = some c → G[i]? = some ((c.toNat : Int), 1) := fun i c h => by rw [← hG]; exact asc_get h
  have hlen : G.length = 8 + t.length := by rw [← hG]; simp [asc]; omega
  have hmid : ∀ k c, t[k]? = some c → G[6 + k]? = some ((c.toNat : Int), 1) := fun k c h => hat _ c (by
    rw [List.getElem?_append_left (by have := (List.getElem?_eq_some_iff.1 h).1; simp; omega), List.getElem?_append_right (by simp)]
    simpa using h)
  have hE : G[6 + t.length]? = some (41, 1) := hat _ 41 (by rw [List.getElem?_append_right (by simp; omega)]; simp; rw [show 6 + t.length - (t.length + 6) = 0 by omega]; rfl)
  have hF : G[6 + t.length + 1]? = some (41, 1) := hat _ 41 (by rw [List.getElem?_append_right (by simp; omega)]; simp; rw [show 6 + t.length - (t.length + 5) = 1 by omega]; rfl)
  have h0 : G[0]? = some (40, 1) := hat 0 40 (by simp)
  have h1 : G[1]? = some (63, 1) := hat 1 63 (by simp)
  have h2 : G[2]? = some (58, 1) := hat 2 58 (by simp)
  have h3 : G[3]? = some (40, 1) := hat 3 40 (by simp)
  have h4 : G[4]? = some (63, 1) := hat 4 63 (by simp)
  have h5 : G[5]? = some (58, 1) := hat 5 58 (by simp)
  have a := alt_lets (G := G) 18 (t.map fun c => (c.toNat : Int)) (s := ⟨6, 2, 0, 0, 0⟩) rfl (by simp only; omega) (fun k r hk => by
    rw [List.getElem?_map, Option.map_eq_some_iff] at hk
    obtain ⟨c, hc, rfl⟩ := hk
    exact ⟨ht c (List.mem_of_getElem? hc), _, hmid k c hc, rfl⟩) (.inr ⟨_, by simpa [adv] using hE, .inr ⟨rfl, by simp [adv]⟩⟩) (by rw [isR_get (g := (41, 1)) (by simpa [adv] using hE)]; rfl)
  have b := alt_free (G := G) 19 (s := ⟨3, 1, 0, 0, 0⟩) (g := (40, 1)) rfl h3 rfl (by rw [isR_get (g := (63, 1)) h4]; rfl) (by rw [isR_get (g := (58, 1)) h5]; rfl) (by decide) a rfl rfl (by rw [isR_get (g := (41, 1)) (by simpa [adv] using hE)]; rfl)
    (.inr ⟨(41, 1), by simpa [adv, Ps.next, Nat.add_right_comm] using hF, .inr ⟨rfl, by simp⟩⟩) (by rw [isR_get (g := (41, 1)) (by simpa [adv, Ps.next, Nat.add_right_comm] using hF)]; rfl)
  have c := alt_free (G := G) 20 (s := ps0) (g := (40, 1)) rfl h0 rfl (by rw [isR_get (g := (63, 1)) h1]; rfl) (by rw [isR_get (g := (58, 1)) h2]; rfl) (by decide) b rfl rfl (by rw [isR_get (g := (41, 1)) (by simpa [adv, Ps.next, Nat.add_right_comm] using hF)]; rfl)
    (.inl (by rw [List.getElem?_eq_none_iff]; simp [adv, Ps.next]; omega)) (isR_none (by rw [List.getElem?_eq_none_iff]; simp [adv, Ps.next]; omega))
  unfold parseG
  rw [c]
  have : ¬ (6 + t.length + 1 + 1 < G.length) := by omega
  simp [adv, Ps.next, ps0, this]
end
end Go.Proofs.YtooockbfagkknaaGreatDoor.syn
/- The document and the program take the same nodes for right. -/
namespace Go.Proofs.YtooockbfagkknaaGreatDoor.syn
open Go.RowKit Go.Proofs.YtooockbfagkknaaGreatDoor.sl Go.Proofs.YtooockbfagkknaaGreatDoor.cls
section
/-- The document: may a node be, by itself? How many kids it has. -/
def shapeR (x : Nd) : Option Int :=
  let bare := fun (r : List Rg) (mn mx : Int) (lz : Bool) (cap kids : Int) => decide (x.kids = kids) && decide (x.mn = mn) && decide (x.mx = mx) && decide (x.lz = lz) && decide (x.cap = cap) && decide (x.r.length = r.length)
  if x.op = 1 ∨ x.op = 7 ∨ x.op = 8 then (if bare [] 0 0 false 0 0 then some 0 else none)
  else if x.op = 2 then (if x.r = makeF x.r then (if bare x.r 0 0 false 0 0 then some 0 else none) else none)
  else if x.op = 3 ∨ x.op = 4 then (if x.kids < 2 then none else if bare [] 0 0 false 0 x.kids then some x.kids else none)
  else if x.op = 5 then (if x.mn < 0 ∨ 30 < x.mn ∨ 30 < x.mx ∨ x.mx < -1 ∨ (0 ≤ x.mx ∧ x.mx < x.mn) then none else if bare [] x.mn x.mx x.lz 0 1 then some 1 else none)
  else if x.op = 6 then (if x.cap < 1 ∨ 4 < x.cap then none else if bare [] 0 0 false x.cap 1 then some 1 else none)
  else none
def rKids (f : Nat → Option Nat) : Nat → Nat → Option Nat
  | 0, a => some a
  | k + 1, a => match f a with
    | none => none
    | some b => rKids f k b
def rWalk (L : List Nd) : Nat → Nat → Option Nat
  | 0, _ => none
  | n + 1, a => if L.length ≤ a then none else match shapeR (L.getD a (nd 0)) with
    | none => none
    | some k => rKids (rWalk L n) k.toNat (a + 1)
/-- The groups' numbers, one by one. -/
def capsGo : List Nd → Nat → Option Nat
  | [], g => some g
  | x :: l, g => if x.op = 6 then (if x.cap = (g : Int) + 1 then capsGo l (g + 1) else none) else capsGo l g
def rightF (L : List Nd) : Bool := decide (1 ≤ L.length) && decide (L.length ≤ 480) && (oneF L 241 0 0).1 && (oneF L 241 0 0).2.1 == L.length
def rRight (L : List Nd) : Bool := decide (1 ≤ L.length) && decide (L.length ≤ 480) && (rWalk L 241 0 == some L.length) && (capsGo L 0).isSome
theorem plain_iff (x : Nd) : plainB x = true ↔ ((x.op = 2 ∨ x.r = []) ∧ (x.op = 5 ∨ (x.mn = 0 ∧ x.mx = 0 ∧ x.lz = false)) ∧ (x.op = 6 ∨ x.cap = 0)) := by
  unfold plainB
  simp [and_assoc]
theorem shape_iff (x : Nd) (g : Nat) : ((shapedF x g).2 = true ↔ (∃ k, shapeR x = some k) ∧ (x.op = 6 → x.cap = (g : Int) + 1)) ∧ ((shapedF x g).2 = true → shapeR x = some (shapedF x g).1) := by
  have hp := plain_iff x
  unfold shapedF shapeR
  generalize plainB x = pl at hp ⊢
  by_cases h1 : x.op = 1 ∨ x.op = 7 ∨ x.op = 8
  · have n6 : x.op ≠ 6 := by omega
    have n5 : x.op ≠ 5 := by omega
    have n2 : x.op ≠ 2 := by omega
    simp only [n2, n5, n6, false_or] at hp
    cases pl
    · have hp' : ¬ (x.r = [] ∧ (x.mn = 0 ∧ x.mx = 0 ∧ x.lz = false) ∧ x.cap = 0) := by simpa using hp
      simp only [h1, if_true, n6]
      simp
      intro a b c d e f
      exact hp' ⟨f, ⟨b, c, d⟩, e⟩
    · have hp' : x.r = [] ∧ (x.mn = 0 ∧ x.mx = 0 ∧ x.lz = false) ∧ x.cap = 0 := by simpa using hp
      obtain ⟨q1, ⟨q2, q3, q4⟩, q5⟩ := hp'
      simp [h1, n6, q1, q2, q3, q4, q5]
  by_cases h2 : x.op = 2
  · simp only [h2] at hp
    have hp2 : pl = true ↔ ((x.mn = 0 ∧ x.mx = 0 ∧ x.lz = false) ∧ x.cap = 0) := by simpa using hp
    rw [if_neg h1, if_pos h2, if_neg h1, if_pos h2]
    by_cases hr : x.r = makeF x.r
    · rw [if_pos hr, decide_eq_true hr]
      clear hr
      cases pl
      · have hp' : ¬ ((x.mn = 0 ∧ x.mx = 0 ∧ x.lz = false) ∧ x.cap = 0) := by simpa using hp2
        simp [h2]
        intro a b c d e
        exact hp' ⟨⟨b, c, d⟩, e⟩
      · have hp' : (x.mn = 0 ∧ x.mx = 0 ∧ x.lz = false) ∧ x.cap = 0 := by simpa using hp2
        obtain ⟨⟨q2, q3, q4⟩, q5⟩ := hp'
        simp [h2, q2, q3, q4, q5]
    · rw [if_neg hr, decide_eq_false hr]
      clear hr
      cases pl <;> simp
  by_cases h3 : x.op = 3 ∨ x.op = 4
  · have n6 : x.op ≠ 6 := by omega
    have n5 : x.op ≠ 5 := by omega
    simp only [h2, n5, n6, false_or] at hp
    rw [if_neg h1, if_neg h2, if_pos h3, if_neg h1, if_neg h2, if_pos h3]
    cases pl
    · have hp' : ¬ (x.r = [] ∧ (x.mn = 0 ∧ x.mx = 0 ∧ x.lz = false) ∧ x.cap = 0) := by simpa using hp
      simp [n6]
      intro a b c d e f
      exact hp' ⟨f, ⟨b, c, d⟩, e⟩
    · have hp' : x.r = [] ∧ (x.mn = 0 ∧ x.mx = 0 ∧ x.lz = false) ∧ x.cap = 0 := by simpa using hp
      obtain ⟨q1, ⟨q2, q3, q4⟩, q5⟩ := hp'
      simp [n6, q1, q2, q3, q4, q5]
  by_cases h5 : x.op = 5
  · simp only [h5] at hp
    have hp2 : pl = true ↔ (x.r = [] ∧ x.cap = 0) := by simpa using hp
    rw [if_neg h1, if_neg h2, if_neg h3, if_pos h5, if_neg h1, if_neg h2, if_neg h3, if_pos h5]
    cases pl
    · have hp' : ¬ (x.r = [] ∧ x.cap = 0) := by simpa using hp2
      simp [h5]
      intro _ _ _ _ _ a b c
      exact hp' ⟨c, b⟩
    · have hp' : x.r = [] ∧ x.cap = 0 := by simpa using hp2
      obtain ⟨q1, q2⟩ := hp'
      simp [h5, q1, q2]
      omega
  by_cases h6 : x.op = 6
  · simp only [h6] at hp
    have hp2 : pl = true ↔ (x.r = [] ∧ (x.mn = 0 ∧ x.mx = 0 ∧ x.lz = false)) := by simpa using hp
    rw [if_neg h1, if_neg h2, if_neg h3, if_neg h5, if_pos h6, if_neg h1, if_neg h2, if_neg h3, if_neg h5, if_pos h6]
    cases pl
    · have hp' : ¬ (x.r = [] ∧ (x.mn = 0 ∧ x.mx = 0 ∧ x.lz = false)) := by simpa using hp2
      simp
      intro _ _ _ a b c d
      exact absurd ⟨d, a, b, c⟩ hp'
    · have hp' : x.r = [] ∧ (x.mn = 0 ∧ x.mx = 0 ∧ x.lz = false) := by simpa using hp2
      obtain ⟨q1, q2, q3, q4⟩ := hp'
      simp [h6, q1, q2, q3, q4]
      omega
  · rw [if_neg h1, if_neg h2, if_neg h3, if_neg h5, if_neg h6, if_neg h1, if_neg h2, if_neg h3, if_neg h5, if_neg h6]
    cases pl <;> simp
theorem capsGo_app : ∀ (l m : List Nd) (g : Nat), capsGo (l ++ m) g = (capsGo l g).bind (capsGo m)
  | [], m, g => rfl
  | x :: l, m, g => by
    rw [List.cons_append, capsGo, capsGo]
    split
    · split
      · exact capsGo_app l m _
      · rfl
    · exact capsGo_app l m g
/-- The groups between two places. -/
def capsSeg (L : List Nd) (a b g : Nat) : Option Nat := capsGo ((L.drop a).take (b - a)) g
theorem capsSeg_same (L : List Nd) (a g : Nat) : capsSeg L a a g = some g := by simp [capsSeg, capsGo]
theorem capsSeg_add (L : List Nd) {a b c : Nat} (g : Nat) (h1 : a ≤ b) (h2 : b ≤ c) : capsSeg L a c g = (capsSeg L a b g).bind fun g => capsSeg L b c g := by
  unfold capsSeg
  rw [← capsGo_app]
  congr 1
  rw [show c - a = (b - a) + (c - b) by omega, List.take_add, List.drop_drop, show a + (b - a) = b by omega]
theorem capsSeg_one (L : List Nd) {a : Nat} (g : Nat) (h : a < L.length) : capsSeg L a (a + 1) g = if (L.getD a (nd 0)).op = 6 then (if (L.getD a (nd 0)).cap = (g : Int) + 1 then some (g + 1) else none) else some g := by
  unfold capsSeg
  have e : (L.drop a).take (a + 1 - a) = [L.getD a (nd 0)] := by
    rw [show a + 1 - a = 1 by omega, List.drop_eq_getElem_cons h, List.getD_eq_getElem?_getD, List.getElem?_eq_getElem h]
    rfl
  rw [e]
  rfl
theorem rKids_bd (L : List Nd) {f : Nat → Option Nat} (hf : ∀ a b, f a = some b → a < b ∧ b ≤ L.length) : ∀ (k a b : Nat), a ≤ L.length → rKids f k a = some b → a ≤ b ∧ b ≤ L.length
  | 0, a, b, ha, h => by cases (show some a = some b from h); exact ⟨Nat.le_refl _, ha⟩
  | k + 1, a, b, ha, h => by
    rw [rKids] at h
    split at h
    · cases h
    · rename_i c hc
      have h1 := hf a c hc
      have h2 := rKids_bd L hf k c b h1.2 h
      omega
theorem rWalk_bd (L : List Nd) : ∀ (n a b : Nat), rWalk L n a = some b → a < b ∧ b ≤ L.length
  | 0, a, b, h => nomatch h
  | n + 1, a, b, h => by
    rw [rWalk] at h
    split at h
    · cases h
    · split at h
      · cases h
      · rename_i hl _ _ _
        have := rKids_bd L (rWalk_bd L n) _ _ _ (by omega) h
        omega
def OneR (L : List Nd) (f : Nat → Nat → Bool × Nat × Nat) (r : Nat → Option Nat) : Prop := ∀ a g,
  ((f a g).1 = true → r a = some (f a g).2.1 ∧ capsSeg L a (f a g).2.1 g = some (f a g).2.2) ∧ (∀ b g', r a = some b → capsSeg L a b g = some g' → f a g = (true, b, g'))
theorem kids_rel (L : List Nd) {f : Nat → Nat → Bool × Nat × Nat} {r : Nat → Option Nat} (h : OneR L f r) (hf : ∀ a b, r a = some b → a < b ∧ b ≤ L.length) : ∀ (k a g : Nat), a ≤ L.length →
    ((kidsGo f k a g).1 = true → rKids r k a = some (kidsGo f k a g).2.1 ∧ capsSeg L a (kidsGo f k a g).2.1 g = some (kidsGo f k a g).2.2) ∧ (∀ b g', rKids r k a = some b → capsSeg L a b g = some g' → kidsGo f k a g = (true, b, g'))
  | 0, a, g, ha => ⟨fun _ => ⟨rfl, capsSeg_same L a g⟩, fun b g' h1 h2 => by
      cases (show some a = some b from h1)
      rw [capsSeg_same] at h2
      cases h2
      rfl⟩
  | k + 1, a, g, ha => by
    obtain ⟨hA, hB⟩ := h a g
    rw [kidsGo, rKids]
    constructor
    · intro h1
      by_cases hc : (f a g).1 = false
      · rw [if_pos hc] at h1; rw [hc] at h1; cases h1
      · rw [if_neg hc] at h1 ⊢
        obtain ⟨q1, q2⟩ := hA (by simpa using hc)
        have hb := hf _ _ q1
        obtain ⟨p1, p2⟩ := (kids_rel L h hf k (f a g).2.1 (f a g).2.2 hb.2).1 h1
        have hb2 := rKids_bd L hf _ _ _ hb.2 p1
        rw [q1]
        refine ⟨p1, ?_⟩
        rw [capsSeg_add L g (Nat.le_of_lt hb.1) hb2.1, q2]
        exact p2
    · intro b g' h1 h2
      split at h1
      · cases h1
      · rename_i c hc
        have hb := hf _ _ hc
        have hb2 := rKids_bd L hf _ _ _ hb.2 h1
        rw [capsSeg_add L g (Nat.le_of_lt hb.1) hb2.1] at h2
        obtain ⟨g1, h3, h4⟩ := Option.bind_eq_some_iff.1 h2
        have e := hB c g1 hc h3
        rw [e]
        simp only [Bool.true_eq_false, if_false]
        exact (kids_rel L h hf k c g1 hb.2).2 b g' h1 h4
theorem one_rel (L : List Nd) : ∀ n, OneR L (oneF L n) (rWalk L n)
  | 0 => fun a g => ⟨fun h => (by cases h), fun b g' h => (by cases h)⟩
  | n + 1 => fun a g => by
    have ih := one_rel L n
    rw [oneF, rWalk]
    by_cases hl : L.length ≤ a
    · rw [if_pos hl, if_pos hl]
      exact ⟨fun h => (by cases h), fun b g' h => (by cases h)⟩
    rw [if_neg hl, if_neg hl]
    obtain ⟨hs, hv⟩ := shape_iff (L.getD a (nd 0)) g
    have hone := capsSeg_one L g (show a < L.length by omega)
    generalize L.getD a (nd 0) = x at hs hv hone ⊢
    constructor
    · intro h1
      by_cases hc : (shapedF x g).2 = false
      · rw [if_pos hc] at h1; cases h1
      · rw [if_neg hc] at h1 ⊢
        have hc' : (shapedF x g).2 = true := by simpa using hc
        rw [hv hc']
        obtain ⟨p1, p2⟩ := (kids_rel L ih (rWalk_bd L n) _ _ _ (by omega)).1 h1
        refine ⟨p1, ?_⟩
        have hb := rKids_bd L (rWalk_bd L n) _ _ _ (by omega) p1
        rw [capsSeg_add L g (Nat.le_succ a) hb.1, hone]
        have h6 := (hs.1 hc').2
        by_cases hx : x.op = 6
        · rw [if_pos hx, if_pos (h6 hx)]
          rw [if_pos hx] at p2 ⊢
          exact p2
        · rw [if_neg hx]
          rw [if_neg hx] at p2 ⊢
          exact p2
    · intro b g' h1 h2
      split at h1
      · cases h1
      · rename_i k hk
        have hb := rKids_bd L (rWalk_bd L n) _ _ _ (by omega) h1
        rw [capsSeg_add L g (Nat.le_succ a) hb.1, hone] at h2
        obtain ⟨g1, h3, h4⟩ := Option.bind_eq_some_iff.1 h2
        have h6 : x.op = 6 → x.cap = (g : Int) + 1 := fun hx => by
          rw [if_pos hx] at h3
          by_cases hq : x.cap = (g : Int) + 1
          · exact hq
          · rw [if_neg hq] at h3; cases h3
        have hc' := hs.2 ⟨⟨k, hk⟩, h6⟩
        have hkk := hv hc'
        rw [hk] at hkk
        cases hkk
        rw [if_neg (by rw [hc']; simp)]
        have hg1 : (if x.op = 6 then g + 1 else g) = g1 := by
          by_cases hx : x.op = 6
          · rw [if_pos hx, if_pos (h6 hx)] at h3; rw [if_pos hx]; exact Option.some.inj h3
          · rw [if_neg hx] at h3 ⊢; exact Option.some.inj h3
        rw [hg1]
        exact (kids_rel L ih (rWalk_bd L n) _ _ _ (by omega)).2 b g' h1 h4
/-- Both take the same nodes for right. -/
theorem rRight_eq (L : List Nd) : rRight L = rightF L := by
  obtain ⟨hA, hB⟩ := one_rel L 241 0 0
  unfold rRight rightF
  rw [Bool.eq_iff_iff]
  simp only [Bool.and_eq_true, beq_iff_eq, Option.isSome_iff_exists]
  have hseg : ∀ g, capsSeg L 0 L.length g = capsGo L g := fun g => by simp [capsSeg]
  constructor
  · rintro ⟨⟨h1, h2⟩, g, h3⟩
    have := hB L.length g h2 (by rw [hseg]; exact h3)
    rw [this]
    exact ⟨⟨h1, rfl⟩, rfl⟩
  · rintro ⟨⟨h1, h2⟩, h3⟩
    obtain ⟨p1, p2⟩ := hA h2
    rw [h3] at p1 p2
    rw [hseg] at p2
    exact ⟨⟨h1, p1⟩, _, p2⟩
end
end Go.Proofs.YtooockbfagkknaaGreatDoor.syn
/- What nodes are written as, in plain Lean (as runes). -/
namespace Go.Proofs.YtooockbfagkknaaGreatDoor.syn
open Go.RowKit Go.Proofs.YtooockbfagkknaaGreatDoor.sl Go.Proofs.YtooockbfagkknaaGreatDoor.cls
section
/-- A rune as a sign of a pattern. -/
def shownR (r : Int) : List Int := if r = 10 then [92, 110] else if r = 9 then [92, 116] else if r = 13 then [92, 114] else if markB r then [92, r] else [r]
def rangeR (x : Rg) : List Int := shownR x.1 ++ (if x.1 < x.2 then 45 :: shownR x.2 else [])
def rangesR (l : List Rg) : List Int := l.flatMap rangeR
def classedR (l : List Rg) : List Int :=
  if l = dotF then [46]
  else if l = [] then [91, 94] ++ rangesR (notF []) ++ [93]
  else if l.length = 1 ∧ lo0 l = (l.getD 0 (0, 0)).2 then shownR (lo0 l)
  else [91] ++ rangesR l ++ [93]
def dgs (m : Nat) : List Int := if m < 10 then [48 + (m : Int)] else [48 + ((m / 10 : Nat) : Int), 48 + ((m % 10 : Nat) : Int)]
def itR (n : Int) : List Int := if n < 0 then 45 :: dgs (-n).toNat else dgs n.toNat
def sizesR (x : Nd) : List Int :=
  (if x.mn = 0 ∧ x.mx = -1 then [42] else if x.mn = 1 ∧ x.mx = -1 then [43] else if x.mn = 0 ∧ x.mx = 1 then [63]
    else if x.mx = -1 then [123] ++ itR x.mn ++ [44, 125] else if x.mn = x.mx then [123] ++ itR x.mn ++ [125]
    else [123] ++ itR x.mn ++ [44] ++ itR x.mx ++ [125]) ++ (if x.lz then [63] else [])
/-- Does a kid stand in brackets? -/
def boundB (over kid : Int) : Bool := (over == 3 || over == 5) && (kid == 3 || kid == 4 || over == 5 && kid == 5) || over == 4 && kid == 4
def wrapR (b : Bool) (t : List Int) : List Int := if b then [40, 63, 58] ++ t ++ [41] else t
def kidR (L : List Nd) (f : Nat → List Int × Nat) (over : Int) (a : Nat) : List Int × Nat := (wrapR (boundB over (L.getD a (nd 0)).op) (f a).1, (f a).2)
/-- Kids, each behind a sign. -/
def kidsR (f : Nat → List Int × Nat) (sep : List Int) : Nat → Nat → List Int × Nat
  | 0, a => ([], a)
  | k + 1, a => (sep ++ (f a).1 ++ (kidsR f sep k (f a).2).1, (kidsR f sep k (f a).2).2)
def textR (L : List Nd) : Nat → Nat → List Int × Nat
  | 0, a => ([], a)
  | n + 1, a =>
    let x := L.getD a (nd 0)
    let kid := kidR L (textR L n)
    if x.op = 2 then (classedR x.r, a + 1)
    else if x.op = 7 then ([94], a + 1)
    else if x.op = 8 then ([36], a + 1)
    else if x.op = 5 then ((kid 5 (a + 1)).1 ++ sizesR x, (kid 5 (a + 1)).2)
    else if x.op = 6 then ([40] ++ (kid 6 (a + 1)).1 ++ [41], (kid 6 (a + 1)).2)
    else if x.op = 3 ∨ x.op = 4 then
      let t := kid x.op (a + 1)
      let u := kidsR (kid x.op) (if x.op = 4 then [124] else []) (x.kids - 1).toNat t.2
      (t.1 ++ u.1, u.2)
    else ([40, 63, 58, 41], a + 1)
/-- The text of nodes, as runes. -/
def printR (L : List Nd) : List Int := (textR L 241 0).1
end
end Go.Proofs.YtooockbfagkknaaGreatDoor.syn
/- Signs, ranges and classes are read back. -/
namespace Go.Proofs.YtooockbfagkknaaGreatDoor.syn
open Go.RowKit Go.Proofs.YtooockbfagkknaaGreatDoor.sl Go.Proofs.YtooockbfagkknaaGreatDoor.cls
section
/-- What the round trip uses of ranges. -/
structure Bx : Prop where
  one : ∀ r, validB r = true → singleF r = [(r, r)]
  good : ∀ l, l = makeF l → ∀ x ∈ l, x.1 ≤ x.2 ∧ validB x.1 = true ∧ validB x.2 = true
  full : makeF (notF []) = notF []
  full0 : notF [] ≠ []
  none_ : notF (notF []) = []
variable {G : List Gt} {alt : Ps → Ps × List Nd}
/-- These runes stand from a place on. -/
def Seg (G : List Gt) (i : Nat) (rs : List Int) : Prop := ∀ k r, rs[k]? = some r → ∃ g, G[i + k]? = some g ∧ g.1 = r ∧ badB G (i + k) = false
theorem Seg.left {i : Nat} {x y : List Int} (h : Seg G i (x ++ y)) : Seg G i x := fun k r hk => h k r (by rw [List.getElem?_append_left (List.getElem?_eq_some_iff.1 hk).1]; exact hk)
theorem Seg.right {i : Nat} {x y : List Int} (h : Seg G i (x ++ y)) : Seg G (i + x.length) y := fun k r hk => by
  have := h (x.length + k) r (by rw [List.getElem?_append_right (by omega), show x.length + k - x.length = k by omega]; exact hk)
  rw [← Nat.add_assoc] at this
  exact this
theorem Seg.head {i : Nat} {r : Int} {x : List Int} (h : Seg G i (r :: x)) : i < G.length ∧ runeAt G i = r ∧ badB G i = false := by
  obtain ⟨g, h1, rfl, h3⟩ := h 0 r rfl
  exact ⟨(List.getElem?_eq_some_iff.1 h1).1, runeAt_get h1, h3⟩
theorem Seg.tail {i : Nat} {r : Int} {x : List Int} (h : Seg G i (r :: x)) : Seg G (i + 1) x := Seg.right (x := [r]) h
theorem Seg.len {i : Nat} {x : List Int} (h : Seg G i x) (hi : i ≤ G.length) : i + x.length ≤ G.length := by
  cases hx : x.length with
  | zero => omega
  | succ k =>
    obtain ⟨g, hg, _⟩ := h k x[k] (List.getElem?_eq_getElem (by omega))
    have := (List.getElem?_eq_some_iff.1 hg).1
    omega
theorem Seg.isR {s : Ps} {r : Int} {x : List Int} (h : Seg G s.i (r :: x)) (c : Int) : isR G s c = (r == c) := by
  obtain ⟨h1, h2, _⟩ := h.head
  rw [isR_run h1, h2]
theorem adv_zero (s : Ps) : adv s 0 = s := rfl
theorem adv_adv (s : Ps) (a b : Nat) : adv (adv s a) b = adv s (a + b) := by simp [adv, Nat.add_assoc]
theorem adv_next (s : Ps) : s.next = adv s 1 := rfl
@[simp] theorem adv_i (s : Ps) (a : Nat) : (adv s a).i = s.i + a := rfl
@[simp] theorem adv_err (s : Ps) (a : Nat) : (adv s a).err = s.err := rfl
@[simp] theorem adv_opens (s : Ps) (a : Nat) : (adv s a).opens = s.opens := rfl
@[simp] theorem adv_groups (s : Ps) (a : Nat) : (adv s a).groups = s.groups := rfl
theorem markB_iff {r : Int} : markB r = true ↔ (33 ≤ r ∧ r ≤ 47) ∨ (58 ≤ r ∧ r ≤ 64) ∨ (91 ≤ r ∧ r ≤ 96) ∨ (123 ≤ r ∧ r ≤ 126) := by
  unfold markB
  simp [or_assoc]
/-- A sign behind a backslash. -/
theorem sign_of (B : Bx) {s : Ps} {c r : Int} (h : Seg G s.i [92, c]) (hr : (c = 110 ∧ r = 10) ∨ (c = 116 ∧ r = 9) ∨ (c = 114 ∧ r = 13) ∨ (c = r ∧ markB r = true)) : signF G s = (adv s 2, [(r, r)], true) := by
  have h2 := h.tail
  obtain ⟨k1, k2, k3⟩ := h2.head
  have hv : validB r = true := by
    rcases hr with ⟨_, rfl⟩ | ⟨_, rfl⟩ | ⟨_, rfl⟩ | ⟨_, hm⟩ <;> try decide
    rw [markB_iff] at hm
    unfold validB
    simp
    omega
  have ho := B.one r hv
  unfold signF
  simp only
  rw [if_neg (by show ¬ G.length ≤ s.i + 1; omega), if_neg (by show ¬ badB G (s.i + 1) = true; rw [k3]; simp)]
  have e : runeAt G s.next.i = c := k2
  rw [e]
  unfold sign1
  rcases hr with ⟨rfl, rfl⟩ | ⟨rfl, rfl⟩ | ⟨rfl, rfl⟩ | ⟨rfl, hm⟩
  · rw [if_pos rfl, ho]; rfl
  · rw [if_neg (by decide), if_pos rfl, ho]; rfl
  · rw [if_neg (by decide), if_neg (by decide), if_pos rfl, ho]; rfl
  · have hm' := markB_iff.1 hm
    rw [if_neg (by omega), if_neg (by omega), if_neg (by omega), if_neg (by omega), if_neg (by omega), if_neg (by omega), if_pos hm, ho]
    rfl
theorem shown_cases (r : Int) : (∃ c, shownR r = [92, c] ∧ ((c = 110 ∧ r = 10) ∨ (c = 116 ∧ r = 9) ∨ (c = 114 ∧ r = 13) ∨ (c = r ∧ markB r = true))) ∨ (shownR r = [r] ∧ markB r = false) := by
  unfold shownR
  by_cases h1 : r = 10
  · exact .inl ⟨110, by rw [if_pos h1], .inl ⟨rfl, h1⟩⟩
  by_cases h2 : r = 9
  · exact .inl ⟨116, by rw [if_neg h1, if_pos h2], .inr (.inl ⟨rfl, h2⟩)⟩
  by_cases h3 : r = 13
  · exact .inl ⟨114, by rw [if_neg h1, if_neg h2, if_pos h3], .inr (.inr (.inl ⟨rfl, h3⟩))⟩
  rw [if_neg h1, if_neg h2, if_neg h3]
  cases h4 : markB r
  · exact .inr ⟨by simp, rfl⟩
  · exact .inl ⟨r, by simp, .inr (.inr (.inr ⟨rfl, rfl⟩))⟩
theorem mark_not {r : Int} (h : markB r = false) (c : Int) (hc : markB c = true) : r ≠ c := by rintro rfl; rw [h] at hc; cases hc
theorem shown_atom (B : Bx) {s : Ps} {r : Int} (hv : validB r = true) (h : Seg G s.i (shownR r)) : atomF G alt s = (adv s (shownR r).length, [ndC [(r, r)]]) := by
  rcases shown_cases r with ⟨c, e, hc⟩ | ⟨e, hm⟩
  · rw [e] at h ⊢
    obtain ⟨k1, k2, k3⟩ := h.head
    unfold atomF
    simp only [k2]
    rw [if_neg (by rw [k3]; simp), if_neg (by decide), if_neg (by decide), if_pos trivial, sign_of B h hc]
    rfl
  · rw [e] at h ⊢
    obtain ⟨k1, k2, k3⟩ := h.head
    have hne := fun c hc => mark_not hm c hc
    unfold atomF
    simp only [k2]
    rw [if_neg (by rw [k3]; simp), if_neg (hne 40 (by decide)), if_neg (hne 91 (by decide)), if_neg (hne 92 (by decide)), if_neg (hne 46 (by decide)), if_neg (hne 94 (by decide)), if_neg (hne 36 (by decide)),
      if_neg (by rintro (q | q | q | q | q | q | q | q) <;> exact hne _ (by decide) q), B.one r hv]
    rfl
theorem shown_part (B : Bx) {s : Ps} {r : Int} (h : Seg G s.i (shownR r)) : partF G s = (adv s (shownR r).length, [(r, r)], true) := by
  rcases shown_cases r with ⟨c, e, hc⟩ | ⟨e, hm⟩
  · rw [e] at h ⊢
    obtain ⟨k1, k2, k3⟩ := h.head
    unfold partF
    simp only [k2]
    rw [if_neg (by rw [k3]; simp), if_pos trivial, sign_of B h hc]
    rfl
  · rw [e] at h ⊢
    obtain ⟨k1, k2, k3⟩ := h.head
    have hne := fun c hc => mark_not hm c hc
    unfold partF
    simp only [k2]
    rw [if_neg (by rw [k3]; simp), if_neg (hne 92 (by decide)), if_neg (by rintro (q | q | q) <;> exact hne _ (by decide) q)]
    rfl
/-- How a sign begins. -/
theorem shown_head (r : Int) : ∃ c x, shownR r = c :: x ∧ c ≠ 45 ∧ c ≠ 93 ∧ c ≠ 94 ∧ c ≠ 42 ∧ c ≠ 43 ∧ c ≠ 63 ∧ c ≠ 123 ∧ c ≠ 124 ∧ c ≠ 41 := by
  rcases shown_cases r with ⟨c, e, hc⟩ | ⟨e, hm⟩
  · exact ⟨92, [c], e, by decide, by decide, by decide, by decide, by decide, by decide, by decide, by decide, by decide⟩
  · have hne := fun c hc => mark_not hm c hc
    exact ⟨r, [], e, hne _ (by decide), hne _ (by decide), hne _ (by decide), hne _ (by decide), hne _ (by decide), hne _ (by decide), hne _ (by decide), hne _ (by decide), hne _ (by decide)⟩
theorem range_item (B : Bx) {s : Ps} {x : Rg} (he : s.err = 0) (hx : x.1 ≤ x.2) (h : Seg G s.i (rangeR x)) (hn : isR G (adv s (rangeR x).length) 45 = false) : itemF G s = (adv s (rangeR x).length, [x]) := by
  obtain ⟨a, b⟩ := x
  have h1 := shown_part B h.left
  unfold itemF
  simp only [h1]
  simp only at hx
  rw [if_neg (by rw [adv_err, he]; simp), if_neg (by simp)]
  by_cases hlt : a < b
  · have er : rangeR (a, b) = shownR a ++ 45 :: shownR b := by unfold rangeR; simp only; rw [if_pos hlt]
    rw [er] at h ⊢
    have h2 : Seg G (adv s (shownR a).length).i (45 :: shownR b) := h.right
    rw [if_pos (by rw [h2.isR]; rfl)]
    have h3 : Seg G (adv s (shownR a).length).next.i (shownR b) := h2.tail
    have h4 := shown_part B h3
    have hl := h2.head.1
    have h5 : (adv s (shownR a).length).next.i < G.length := by
      obtain ⟨c, y, e, _⟩ := shown_head b
      rw [e] at h3
      exact h3.head.1
    unfold item2
    simp only
    rw [if_pos h5, h4]
    simp only
    have hc : ¬ ((adv (adv s (shownR a).length).next (shownR b).length).err = 0 ∧ (true = false ∨ true = false ∨ lo0 [(b, b)] < lo0 [(a, a)])) := by
      rintro ⟨_, q | q | q⟩
      · cases q
      · cases q
      · simp [lo0] at q; omega
    rw [if_neg hc, if_pos (by rw [adv_err]; exact he)]
    rw [adv_next, adv_adv, adv_adv]
    simp only [List.length_append, List.length_cons, lo0]
    rw [show (shownR a).length + (1 + (shownR b).length) = (shownR a).length + ((shownR b).length + 1) by omega]
    rfl
  · obtain rfl : a = b := by omega
    have er : rangeR (a, a) = shownR a := by unfold rangeR; simp
    rw [er] at hn ⊢
    rw [if_neg (by rw [hn]; simp)]
theorem rangesR_cons (x : Rg) (l : List Rg) : rangesR (x :: l) = rangeR x ++ rangesR l := by simp [rangesR]
theorem range_head (x : Rg) : ∃ c y, rangeR x = c :: y ∧ c ≠ 45 ∧ c ≠ 93 ∧ c ≠ 94 := by
  obtain ⟨c, y, e, h1, h2, h3, _⟩ := shown_head x.1
  exact ⟨c, _, by unfold rangeR; rw [e]; rfl, h1, h2, h3⟩
theorem clsGo_ranges (B : Bx) (frm : Nat) : ∀ (l : List Rg) (n : Nat) (s : Ps) (acc : List Rg) (b : Bool) (tl : List Int), s.err = 0 → (∀ x ∈ l, x.1 ≤ x.2) → Seg G s.i (rangesR l ++ 93 :: tl) → l.length ≤ n →
    clsGo G frm n s acc b = (adv s (rangesR l).length, acc ++ l, b && l.isEmpty, false)
  | [], n, s, acc, b, tl, he, hx, h, hn => by
    have h93 : isR G s 93 = true := by
      have h' : Seg G s.i (93 :: tl) := h
      rw [h'.isR]; rfl
    have e : clsGo G frm n s acc b = (s, acc, b, false) := by
      cases n with
      | zero => rfl
      | succ n => rw [clsGo, if_neg (by rw [h93]; simp)]
    rw [e]
    simp [rangesR, adv_zero]
  | x :: l, n, s, acc, b, tl, he, hx, h, hn => by
    obtain ⟨m, rfl⟩ : ∃ m, n = m + 1 := ⟨n - 1, by simp at hn; omega⟩
    rw [rangesR_cons, List.append_assoc] at h
    obtain ⟨c, y, e, e1, e2, e3⟩ := range_head x
    have h1 := h.left
    have hd := h1
    rw [e] at hd
    have h2 : Seg G (adv s (rangeR x).length).i (rangesR l ++ 93 :: tl) := h.right
    have hnx : isR G (adv s (rangeR x).length) 45 = false := by
      cases l with
      | nil =>
        have h2' : Seg G (adv s (rangeR x).length).i (93 :: tl) := h2
        rw [h2'.isR]; rfl
      | cons z l =>
        obtain ⟨c', y', e', f1, f2, f3⟩ := range_head z
        rw [rangesR_cons, e'] at h2
        rw [Seg.isR (x := y' ++ rangesR l ++ 93 :: tl) (by simpa using h2)]
        simpa using f1
    have hi := range_item B he (hx x (by simp)) h1 hnx
    rw [clsGo, if_pos ⟨he, by rw [hd.isR]; simpa using e2⟩, if_neg (by have := hd.head.1; omega), hi]
    simp only
    rw [clsGo_ranges B frm l m (adv s (rangeR x).length) _ false tl he (fun z hz => hx z (by simp [hz])) h2 (by simp at hn; omega), adv_adv, rangesR_cons]
    simp
theorem ranges_len (l : List Rg) : l.length ≤ (rangesR l).length := by
  induction l with
  | nil => simp
  | cons x l ih =>
    obtain ⟨c, y, e, _⟩ := range_head x
    rw [rangesR_cons, e]
    simp
    omega
/-- What stands in square brackets. -/
theorem cls_of (B : Bx) {s : Ps} {l : List Rg} {neg : Bool} (he : s.err = 0) (hi : s.i ≤ G.length) (hg : ∀ x ∈ l, x.1 ≤ x.2) (hl : l ≠ []) (h : Seg G s.i ([91] ++ (if neg then [94] else []) ++ rangesR l ++ [93])) :
    clsF G s = (adv s ([91] ++ (if neg then [94] else []) ++ rangesR l ++ [93]).length, [ndC (if neg then notF (makeF l) else makeF l)]) := by
  obtain ⟨x, l', rfl⟩ : ∃ x l', l = x :: l' := by
    cases l with
    | nil => exact absurd rfl hl
    | cons x l' => exact ⟨x, l', rfl⟩
  generalize hL : x :: l' = l at *
  have hlen := h.len hi
  obtain ⟨c, y, e, e1, e2, e3⟩ := range_head x
  have hr : rangesR l = c :: (y ++ rangesR l') := by rw [← hL, rangesR_cons, e]; rfl
  have hll := ranges_len l
  have hne : l.isEmpty = false := by rw [← hL]; rfl
  cases neg
  · have h1 : Seg G s.next.i (rangesR l ++ [93]) := by
      have := Seg.right (x := [91]) (y := rangesR l ++ [93]) (by simpa using h)
      exact this
    have hh := h1
    rw [hr] at hh
    have h94 : isR G s.next 94 = false := by rw [Seg.isR (x := y ++ rangesR l' ++ [93]) (by simpa using hh)]; simpa using e3
    have hgo := clsGo_ranges (G := G) B s.i l (G.length + 2 - s.next.i) s.next [] true [] he hg h1 (by simp at hlen ⊢; omega)
    have hend : isR G (adv s.next (rangesR l).length) 93 = true := by
      have : Seg G (adv s.next (rangesR l).length).i [93] := h1.right
      rw [this.isR]; rfl
    unfold clsF
    have hk : skipS G s.next 94 = s.next := by unfold skipS; rw [h94]; rfl
    simp only [hk, h94, hgo]
    simp only [Bool.false_eq_true, if_false, List.nil_append, hne, Bool.and_false]
    rw [if_neg (by rw [adv_err]; simpa using he), adv_next, adv_next, adv_adv, adv_adv]
    simp only [List.append_nil, List.length_append, List.length_cons, List.length_nil]
    rw [show 1 + ((rangesR l).length + 1) = 0 + 1 + (rangesR l).length + (0 + 1) by omega]
  · have h1 : Seg G s.next.i (94 :: (rangesR l ++ [93])) := by
      have := Seg.right (x := [91]) (y := 94 :: (rangesR l ++ [93])) (by simpa using h)
      exact this
    have h94 : isR G s.next 94 = true := by rw [h1.isR]; rfl
    have h2 : Seg G s.next.next.i (rangesR l ++ [93]) := h1.tail
    have hgo := clsGo_ranges (G := G) B s.i l (G.length + 2 - s.next.next.i) s.next.next [] true [] he hg h2 (by simp at hlen ⊢; omega)
    unfold clsF
    have hk : skipS G s.next 94 = s.next.next := by unfold skipS; rw [h94]; rfl
    simp only [hk, h94, hgo]
    simp only [Bool.false_eq_true, if_false, if_true, List.nil_append, hne, Bool.and_false]
    rw [if_neg (by rw [adv_err]; simpa using he), adv_next, adv_next, adv_next, adv_adv, adv_adv, adv_adv]
    simp only [List.length_append, List.length_cons, List.length_nil]
    rw [show 0 + 1 + (0 + 1) + (rangesR l).length + (0 + 1) = 1 + (1 + ((rangesR l).length + 1)) by omega]
/-- A class. -/
theorem class_atom (B : Bx) {s : Ps} {l : List Rg} (he : s.err = 0) (hi : s.i ≤ G.length) (hg : l = makeF l) (h : Seg G s.i (classedR l)) : atomF G alt s = (adv s (classedR l).length, [ndC l]) := by
  unfold classedR at h ⊢
  by_cases c1 : l = dotF
  · rw [if_pos c1] at h ⊢
    obtain ⟨k1, k2, k3⟩ := h.head
    unfold atomF
    simp only [k2]
    rw [if_neg (by rw [k3]; simp), if_neg (by decide), if_neg (by decide), if_neg (by decide), if_pos trivial, c1]
    rfl
  rw [if_neg c1] at h ⊢
  have hb : ∀ {x : List Int}, Seg G s.i (91 :: x) → atomF G alt s = clsF G s := fun hx => by
    obtain ⟨k1, k2, k3⟩ := hx.head
    unfold atomF
    simp only [k2]
    rw [if_neg (by rw [k3]; simp), if_neg (by decide), if_pos trivial]
  by_cases c2 : l = []
  · rw [if_pos c2] at h ⊢
    rw [hb (x := [94] ++ rangesR (notF []) ++ [93]) (by simpa using h)]
    have := cls_of (G := G) (neg := true) B he hi (fun x hx => (B.good _ B.full.symm x hx).1) B.full0 (by simpa using h)
    rw [this]
    simp only [if_true]
    rw [B.full, B.none_, c2]
    rfl
  rw [if_neg c2] at h ⊢
  by_cases c3 : l.length = 1 ∧ lo0 l = (l.getD 0 (0, 0)).2
  · rw [if_pos c3] at h ⊢
    obtain ⟨⟨a, b⟩, rfl⟩ : ∃ x, l = [x] := List.length_eq_one_iff.1 c3.1
    have hab : a = b := c3.2
    subst hab
    exact shown_atom B (B.good _ hg (a, a) (by simp)).2.1 h
  · rw [if_neg c3] at h ⊢
    rw [hb (x := rangesR l ++ [93]) (by simpa using h)]
    have := cls_of (G := G) (neg := false) B he hi (fun x hx => (B.good _ hg x hx).1) c2 (by simpa using h)
    rw [this]
    simp only [Bool.false_eq_true, if_false]
    rw [← hg]
    rfl
end
end Go.Proofs.YtooockbfagkknaaGreatDoor.syn
