/- What reading a pattern computes, in plain Lean. -/
import Derived.Test.YtooockbfagkknaaGreatDoorCls
namespace Go.Proofs.YtooockbfagkknaaGreatDoor.syn
open Go.RowKit Go.Proofs.YtooockbfagkknaaGreatDoor.sl Go.Proofs.YtooockbfagkknaaGreatDoor.cls
structure Nd where
  op : Int
  r : List Rg
  mn : Int
  mx : Int
  lz : Bool
  cap : Int
  kids : Int
def Nd.tup (x : Nd) : Int × List Rg × Int × Int × Bool × Int × Int := (x.op, x.r, x.mn, x.mx, x.lz, x.cap, x.kids)
theorem Nd.tup_inj {x y : Nd} (h : x.tup = y.tup) : x = y := by
  cases x; cases y
  simp only [Nd.tup, Prod.mk.injEq] at h
  obtain ⟨rfl, rfl, rfl, rfl, rfl, rfl, rfl⟩ := h
  rfl
instance : DecidableEq Nd := fun a b => decidable_of_iff (a.tup = b.tup) ⟨Nd.tup_inj, fun h => by rw [h]⟩
def nd (op : Int) : Nd := ⟨op, [], 0, 0, false, 0, 0⟩
def ndC (l : List Rg) : Nd := { nd 2 with r := l }
abbrev Gt := Int × Int
/-- Where a parser stands. -/
structure Ps where
  i : Nat
  opens : Nat
  groups : Nat
  err : Int
  wh : Int
section
variable (G : List Gt)
def place (i : Nat) : Int := ((G.take i).map (·.2)).sum
def Ps.wrong (s : Ps) (i : Nat) (e : Int) : Ps := if s.err = 0 then { s with err := e, wh := place G i } else s
def isR (s : Ps) (r : Int) : Bool := match G[s.i]? with
  | some g => g.1 == r
  | none => false
def Ps.next (s : Ps) : Ps := { s with i := s.i + 1 }
def skipS (s : Ps) (r : Int) : Ps := if isR G s r then s.next else s
def badB (i : Nat) : Bool := match G[i]? with
  | some g => g.1 == 65533 && g.2 == 1
  | none => false
def runeAt (i : Nat) : Int := (G.getD i (0, 0)).1
/-- Several lists under an op. -/
def joined (op : Int) : List (List Nd) → List Nd
  | [] => [nd 1]
  | [x] => x
  | ps => { nd op with kids := ps.length } :: ps.flatten
def dotF : List Rg := notF [(10, 10)]
def singleF (r : Int) : List Rg := makeF [(r, r)]
def markB (r : Int) : Bool := decide (33 ≤ r) && decide (r ≤ 47) || decide (58 ≤ r) && decide (r ≤ 64) || decide (91 ≤ r) && decide (r ≤ 96) || decide (123 ≤ r) && decide (r ≤ 126)
/-- What a backslash says: where it stands then, the ranges, is it a single rune. -/
def sign1 (s : Ps) (frm : Nat) (r : Int) : Ps × List Rg × Bool :=
  if r = 110 then (s, singleF 10, true)
  else if r = 116 then (s, singleF 9, true)
  else if r = 114 then (s, singleF 13, true)
  else if r = 100 then (s, makeF [(48, 57)], false)
  else if r = 115 then (s, makeF [(9, 10), (13, 13), (32, 32)], false)
  else if r = 119 then (s, makeF [(48, 57), (65, 90), (95, 95), (97, 122)], false)
  else if markB r then (s, singleF r, true)
  else (s.wrong G frm 4, [], false)
def signF (s : Ps) : Ps × List Rg × Bool :=
  let t := s.next
  if G.length ≤ t.i then (t.wrong G s.i 4, [], false)
  else if badB G t.i then (t.wrong G t.i 4, [], false)
  else sign1 G t.next s.i (runeAt G t.i)
/-- Part of an item. -/
def partF (s : Ps) : Ps × List Rg × Bool :=
  if badB G s.i then (s.wrong G s.i 4, [], false)
  else
    let r := runeAt G s.i
    if r = 92 then signF G s
    else if r = 91 ∨ r = 93 ∨ r = 45 then (s, [], false)
    else (s.next, [(r, r)], true)
def lo0 (l : List Rg) : Int := (l.getD 0 (0, 0)).1
def item2 (a : List Rg) (one : Bool) (frm : Nat) (s : Ps) : Ps × List Rg :=
  let b := if s.i < G.length then partF G s else (s, [], false)
  let t := if b.1.err = 0 ∧ (one = false ∨ b.2.2 = false ∨ lo0 b.2.1 < lo0 a) then b.1.wrong G frm 4 else b.1
  if t.err = 0 then (t, [(lo0 a, lo0 b.2.1)]) else (t, [])
def itemF (s : Ps) : Ps × List Rg :=
  let a := partF G s
  if a.1.err ≠ 0 then (a.1, [])
  else if a.2.1 = [] then (a.1.wrong G s.i 4, [])
  else if isR G a.1 45 then item2 G a.2.1 a.2.2 s.i a.1.next
  else (a.1, a.2.1)
/-- The items of a class; some: the end was met too early. -/
def clsGo (frm : Nat) : Nat → Ps → List Rg → Bool → Ps × List Rg × Bool × Bool
  | 0, s, l, none_ => (s, l, none_, false)
  | n + 1, s, l, none_ =>
    if s.err = 0 ∧ isR G s 93 = false then
      if G.length ≤ s.i then (s.wrong G frm 4, l, none_, true)
      else clsGo frm n (itemF G s).1 (l ++ (itemF G s).2) false
    else (s, l, none_, false)
def clsF (s : Ps) : Ps × List Nd :=
  let neg := isR G s.next 94
  let t := skipS G s.next 94
  let c := clsGo G s.i (G.length + 2 - t.i) t [] true
  if c.2.2.2 then (c.1, [])
  else if c.1.err ≠ 0 then (c.1, [])
  else if c.2.2.1 then (c.1.wrong G s.i 4, [])
  else (c.1.next, [ndC (if neg then notF (makeF c.2.1) else makeF c.2.1)])
def digGo : Nat → Nat → List UInt8 → Nat × List UInt8
  | 0, i, b => (i, b)
  | n + 1, i, b => if i < G.length ∧ 48 ≤ runeAt G i ∧ runeAt G i ≤ 57 then
      digGo n (i + 1) (if 48 < runeAt G i ∨ b ≠ [] then b ++ [UInt8.ofNat (runeAt G i).toNat] else b) else (i, b)
def digS (s : Ps) : Ps := { s with i := (digGo G (G.length - s.i) s.i []).1 }
def digB (s : Ps) : List UInt8 := (digGo G (G.length - s.i) s.i []).2
def digK (s : Ps) : Bool := decide (s.i < (digGo G (G.length - s.i) s.i []).1)
end
def lessB (a b : List UInt8) : Bool := decide (a.length < b.length) || (a.length == b.length && Op.bytesLess a b)
def valGo (l : List UInt8) : Int := l.foldl (fun n c => 10 * n + ((c.toNat : Int) - 48)) 0
def valF (l : List UInt8) : Int × Bool := if 2 < l.length then (0, false) else (valGo l, decide (valGo l ≤ 30))
section
variable (G : List Gt)
/-- Behind the first number. -/
def often2 (frm : Nat) (s : Ps) (m n : List UInt8) (ok en : Bool) : Ps × Int × Int :=
  if ok = false then (s.wrong G frm 4, 0, 0)
  else if isR G s 125 = false then (s.wrong G frm 4, 0, 0)
  else if en = false ∧ lessB n m = true then (s.next.wrong G frm 4, 0, 0)
  else
    let lo := valF m
    let hi := valF (if en then [] else n)
    if lo.2 = false ∨ hi.2 = false then (s.next.wrong G frm 2, 0, 0)
    else (s.next, lo.1, if en then -1 else hi.1)
def oftenF (s : Ps) : Ps × Int × Int :=
  let t := digS G s.next
  let m := digB G s.next
  let ok := digK G s.next
  if ok ∧ isR G t 44 then often2 G s.i (digS G t.next) m (digB G t.next) ok (!digK G t.next)
  else often2 G s.i t m m ok false
def groupF (alt : Ps → Ps × List Nd) (s : Ps) : Ps × List Nd :=
  let free := isR G s.next 63
  let s2 := if free then s.next.next else s.next
  if free = true ∧ isR G s2 58 = false then (s2.wrong G s.i 4, [])
  else
    let s3 := if free then s2.next else s2
    if 20 ≤ s3.opens then (s3.wrong G s.i 10, [])
    else if free = false ∧ 4 ≤ s3.groups then (s3.wrong G s.i 13, [])
    else
      let s4 : Ps := if free then s3 else { s3 with groups := s3.groups + 1 }
      let a := alt { s4 with opens := s4.opens + 1 }
      let s5 : Ps := { a.1 with opens := a.1.opens - 1 }
      if s5.err = 0 ∧ isR G s5 41 = false then (s5.wrong G s.i 4, [])
      else
        let s6 : Ps := if s5.err = 0 then s5.next else s5
        if free then (s6, a.2) else (s6, { nd 6 with cap := s4.groups, kids := 1 } :: a.2)
def atomF (alt : Ps → Ps × List Nd) (s : Ps) : Ps × List Nd :=
  if badB G s.i then (s.wrong G s.i 4, [])
  else
    let r := runeAt G s.i
    if r = 40 then groupF G alt s
    else if r = 91 then clsF G s
    else if r = 92 then ((signF G s).1, [ndC (signF G s).2.1])
    else if r = 46 then (s.next, [ndC dotF])
    else if r = 94 then (s.next, [nd 7])
    else if r = 36 then (s.next, [nd 8])
    else if r = 42 ∨ r = 43 ∨ r = 63 ∨ r = 41 ∨ r = 93 ∨ r = 123 ∨ r = 125 ∨ r = 124 then (s.wrong G s.i 4, [])
    else (s.next, [ndC (singleF r)])
def rep2 (s : Ps) (mn mx : Int) (x : List Nd) : Ps × List Nd :=
  if s.err ≠ 0 then (s, [])
  else (skipS G s 63, { nd 5 with mn := mn, mx := mx, lz := isR G s 63, kids := 1 } :: x)
def repF (alt : Ps → Ps × List Nd) (s : Ps) : Ps × List Nd :=
  let a := atomF G alt s
  if a.1.err ≠ 0 then (a.1, [])
  else if isR G a.1 42 then rep2 G a.1.next 0 (-1) a.2
  else if isR G a.1 43 then rep2 G a.1.next 1 (-1) a.2
  else if isR G a.1 63 then rep2 G a.1.next 0 1 a.2
  else if isR G a.1 123 then rep2 G (oftenF G a.1).1 (oftenF G a.1).2.1 (oftenF G a.1).2.2 a.2
  else a
def catGo (alt : Ps → Ps × List Nd) : Nat → Ps → List (List Nd) → Ps × List (List Nd)
  | 0, s, ps => (s, ps)
  | n + 1, s, ps =>
    if s.err = 0 ∧ s.i < G.length ∧ isR G s 124 = false ∧ ¬ (isR G s 41 = true ∧ 0 < s.opens) then catGo alt n (repF G alt s).1 (ps ++ [(repF G alt s).2])
    else (s, ps)
def catF (alt : Ps → Ps × List Nd) (s : Ps) : Ps × List Nd :=
  let c := catGo G alt (G.length + 2 - s.i) s []
  (c.1, joined 3 c.2)
def altGo (alt : Ps → Ps × List Nd) : Nat → Ps → List (List Nd) → Ps × List (List Nd)
  | 0, s, ps => (s, ps)
  | n + 1, s, ps =>
    if s.err = 0 ∧ isR G s 124 = true then altGo alt n (catF G alt s.next).1 (ps ++ [(catF G alt s.next).2])
    else (s, ps)
def alt1 (alt : Ps → Ps × List Nd) (s : Ps) : Ps × List Nd :=
  let c := catF G alt s
  let d := altGo G alt (G.length + 2 - c.1.i) c.1 [c.2]
  (d.1, joined 4 d.2)
/-- n: how deep brackets may still stand. -/
def altF : Nat → Ps → Ps × List Nd
  | 0, s => (s, [])
  | n + 1, s => alt1 G (altF n) s
def ps0 : Ps := ⟨0, 0, 0, 0, 0⟩
def parseG : List Nd × Int × Int :=
  let a := altF G 21 ps0
  let s := if a.1.err = 0 ∧ a.1.i < G.length then a.1.wrong G a.1.i 4 else a.1
  if s.err ≠ 0 then ([], s.err, s.wh) else (a.2, 0, 0)
end
end Go.Proofs.YtooockbfagkknaaGreatDoor.syn
