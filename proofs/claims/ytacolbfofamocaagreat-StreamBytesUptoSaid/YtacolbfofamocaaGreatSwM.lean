/- Contracts of scans and streams as bytes. -/
import Derived.Test.YtacolbfofamocaaGreatSwA
namespace Go.Proofs.YtacolbfofamocaaGreat.sx
open Go Go.RowKit
noncomputable section
structure Scn where
  held : By
  place : Int
  lists : List Lst
structure Strm where
  at_ : Int
  line : Int
  long : Bool
  opened : Bool
  event : Int
  size : Int
  ends : List Lst
  cur : Scn
  alt : Scn
  con : Scn
def scnL (x : Scn) : List (AV D.E) := [.list 0 x.held, .int .i64 x.place, .list 2 x.lists]
def strmL (x : Strm) : List (AV D.E) := [.int .i64 x.at_, .int .i64 x.line, .bool x.long, .bool x.opened, .int .i64 x.event, .int .i64 x.size, .list 2 x.ends,
  .list 0 x.cur.held, .int .i64 x.cur.place, .list 2 x.cur.lists, .list 0 x.alt.held, .int .i64 x.alt.place, .list 2 x.alt.lists, .list 0 x.con.held, .int .i64 x.con.place, .list 2 x.con.lists]
def scnF (b : By) (x : Scn) : By := lstsF (numF (textF b x.held) x.place) x.lists
def strmF (b : By) (x : Strm) : By := scnF (scnF (scnF (lstsF (numF (numF (flagF (flagF (numF (numF b x.at_) x.line) x.long) x.opened) x.event) x.size) x.ends) x.cur) x.alt) x.con
def scnW (x : Scn) : Nat := x.held.length + 27 + lstsW x.lists
def scnIn (s : St D.E) (h p l : AV D.E) : C Scn := bnd (rowsOf D s 0 h) fun h => bnd2 (asI p) fun _ p => bnd (rowsOf D s 2 l) fun l => .ret ⟨(h : By), p, (l : List Lst)⟩
def scnC : Con D where
  f := 26
  Y := By × Scn
  inp := fun args s => match args with
    | [a, b] => bnd (rowsOf D s 0 a) fun l => bnd (asAgg b) fun cs => match cs with
      | [h, p, q] => bnd (scnIn s h p q) fun x => .ret ((l : By), x)
      | _ => .fail
    | _ => .fail
  pre := fun y => y.1.length + scnW y.2 ≤ 536870912
  args := fun y => [.list 0 y.1, .agg (scnL y.2)]
  heap := fun _ => []
  res := fun y => .grow 0 (scnF y.1 y.2) 0
  heap' := fun _ => [(0, .tok 0 5)]
  nx0 := 0
  nx1 := 1
def scnO (_ : scnC.Y) : Orc D := ⟨[], [], [], [], 1, []⟩
def scnV (y : scnC.Y) : Prop := vcOf [textC, numC, plC] Tryz.f26 scnC scnO y
def strmC : Con D where
  f := 8
  Y := By × Strm
  inp := fun args s => match args with
    | [a, b] => bnd (rowsOf D s 0 a) fun l => bnd (asAgg b) fun cs => match cs with
      | [t1, t2, t3, t4, t5, t6, t7, a1, a2, a3, b1, b2, b3, c1, c2, c3] => bnd2 (asI t1) fun _ t1 => bnd2 (asI t2) fun _ t2 => bnd2 (asT t3) fun t3 _ => bnd2 (asT t4) fun t4 _ => bnd2 (asI t5) fun _ t5 => bnd2 (asI t6) fun _ t6 => bnd (rowsOf D s 2 t7) fun t7 =>
        bnd (scnIn s a1 a2 a3) fun x => bnd (scnIn s b1 b2 b3) fun y => bnd (scnIn s c1 c2 c3) fun z => .ret ((l : By), ⟨t1, t2, t3, t4, t5, t6, (t7 : List Lst), x, y, z⟩)
      | _ => .fail
    | _ => .fail
  pre := fun y => y.1.length + 63 + lstsW y.2.ends + scnW y.2.cur + scnW y.2.alt + scnW y.2.con ≤ 536870912
  args := fun y => [.list 0 y.1, .agg (strmL y.2)]
  heap := fun _ => []
  res := fun y => .grow 0 (strmF y.1 y.2) 0
  heap' := fun _ => [(0, .tok 0 5)]
  nx0 := 0
  nx1 := 1
def strmO (_ : strmC.Y) : Orc D := ⟨[], [], [], [], 1, []⟩
def strmV (y : strmC.Y) : Prop := vcOf [numC, flagC, plC, scnC] Tryz.f8 strmC strmO y
end
end Go.Proofs.YtacolbfofamocaaGreat.sx
/- Conditions, as a tool printed them; that they are the functions' own the kernel computes. -/
namespace Go.Proofs.YtacolbfofamocaaGreat.sx
open Go Go.RowKit
def scnVC (y : Prod (List UInt8) Scn) : Prop :=
 (Iv (((List.length y.1 : Nat) ≤ 536870912) ∧ (List.length (Scn.held y.2) : Nat) ≤ 536870912)) ∧
 (@Eq (List UInt8) y.1 y.1) ∧
 (@Eq (List UInt8) (Scn.held y.2) (Scn.held y.2)) ∧
 (Iv ((List.length (textF y.1 (Scn.held y.2)) : Nat) ≤ 1073741824)) ∧
 (@Eq (List UInt8) (textF y.1 (Scn.held y.2)) (textF y.1 (Scn.held y.2))) ∧
 (@Eq Int (Scn.place y.2) (Scn.place y.2)) ∧
 (Iv (((List.length (numF (textF y.1 (Scn.held y.2)) (Scn.place y.2)) : Nat) + (lstsW (Scn.lists y.2)) : Nat) ≤ 1073741424)) ∧
 (@Eq (List UInt8) (numF (textF y.1 (Scn.held y.2)) (Scn.place y.2)) (numF (textF y.1 (Scn.held y.2)) (Scn.place y.2))) ∧
 (@Eq (List Lst) (Scn.lists y.2) (Scn.lists y.2)) ∧
 (@Eq (List UInt8) (Scn.held y.2) (Scn.held y.2)) ∧
 (@Eq (List UInt8) (Scn.held y.2) (Scn.held y.2)) ∧
 (@Eq Int (Scn.place y.2) (Scn.place y.2)) ∧
 (@Eq Int (Scn.place y.2) (Scn.place y.2)) ∧
 (@Eq (List Lst) (Scn.lists y.2) (Scn.lists y.2)) ∧
 (@Eq (List Lst) (Scn.lists y.2) (Scn.lists y.2)) ∧
 (@Eq (List Lst) (Scn.lists y.2) (Scn.lists y.2)) ∧
 (@Eq (List UInt8) (lstsF (numF (textF y.1 (Scn.held y.2)) (Scn.place y.2)) (Scn.lists y.2)) (scnF y.1 y.2)) ∧
 True
theorem scnV_eq : ∀ y, scnVC y = scnV y := fun y => by kernel_rfl
def strmVC (y : Prod (List UInt8) Strm) : Prop :=
 (Iv ((List.length y.1 : Nat) ≤ 1073741824)) ∧
 (@Eq (List UInt8) y.1 y.1) ∧
 (@Eq Int (Strm.at_ y.2) (Strm.at_ y.2)) ∧
 (Iv ((List.length (numF y.1 (Strm.at_ y.2)) : Nat) ≤ 1073741824)) ∧
 (@Eq (List UInt8) (numF y.1 (Strm.at_ y.2)) (numF y.1 (Strm.at_ y.2))) ∧
 (@Eq Int (Strm.line y.2) (Strm.line y.2)) ∧
 (Iv ((List.length (numF (numF y.1 (Strm.at_ y.2)) (Strm.line y.2)) : Nat) ≤ 1073741824)) ∧
 (@Eq (List UInt8) (numF (numF y.1 (Strm.at_ y.2)) (Strm.line y.2)) (numF (numF y.1 (Strm.at_ y.2)) (Strm.line y.2))) ∧
 (@Eq Bool (Strm.long y.2) (Strm.long y.2)) ∧
 (Iv ((List.length (flagF (numF (numF y.1 (Strm.at_ y.2)) (Strm.line y.2)) (Strm.long y.2)) : Nat) ≤ 1073741824)) ∧
 (@Eq (List UInt8) (flagF (numF (numF y.1 (Strm.at_ y.2)) (Strm.line y.2)) (Strm.long y.2)) (flagF (numF (numF y.1 (Strm.at_ y.2)) (Strm.line y.2)) (Strm.long y.2))) ∧
 (@Eq Bool (Strm.opened y.2) (Strm.opened y.2)) ∧
 (@Eq Int (Strm.at_ y.2) (Strm.at_ y.2)) ∧
 (@Eq Int (Strm.line y.2) (Strm.line y.2)) ∧
 (@Eq Int (Strm.line y.2) (Strm.line y.2)) ∧
 (@Eq Bool (Strm.long y.2) (Strm.long y.2)) ∧
 (@Eq Bool (Strm.long y.2) (Strm.long y.2)) ∧
 (@Eq Bool (Strm.long y.2) (Strm.long y.2)) ∧
 (@Eq Bool (Strm.opened y.2) (Strm.opened y.2)) ∧
 (@Eq Bool (Strm.opened y.2) (Strm.opened y.2)) ∧
 (@Eq Bool (Strm.opened y.2) (Strm.opened y.2)) ∧
 (@Eq Bool (Strm.opened y.2) (Strm.opened y.2)) ∧
 (Iv ((List.length (flagF (flagF (numF (numF y.1 (Strm.at_ y.2)) (Strm.line y.2)) (Strm.long y.2)) (Strm.opened y.2)) : Nat) ≤ 1073741824)) ∧
 (@Eq (List UInt8) (flagF (flagF (numF (numF y.1 (Strm.at_ y.2)) (Strm.line y.2)) (Strm.long y.2)) (Strm.opened y.2)) (flagF (flagF (numF (numF y.1 (Strm.at_ y.2)) (Strm.line y.2)) (Strm.long y.2)) (Strm.opened y.2))) ∧
 (@Eq Int (Strm.event y.2) (Strm.event y.2)) ∧
 (Iv ((List.length (numF (flagF (flagF (numF (numF y.1 (Strm.at_ y.2)) (Strm.line y.2)) (Strm.long y.2)) (Strm.opened y.2)) (Strm.event y.2)) : Nat) ≤ 1073741824)) ∧
 (@Eq (List UInt8) (numF (flagF (flagF (numF (numF y.1 (Strm.at_ y.2)) (Strm.line y.2)) (Strm.long y.2)) (Strm.opened y.2)) (Strm.event y.2)) (numF (flagF (flagF (numF (numF y.1 (Strm.at_ y.2)) (Strm.line y.2)) (Strm.long y.2)) (Strm.opened y.2)) (Strm.event y.2))) ∧
 (@Eq Int (Strm.size y.2) (Strm.size y.2)) ∧
 (Iv (((List.length (numF (numF (flagF (flagF (numF (numF y.1 (Strm.at_ y.2)) (Strm.line y.2)) (Strm.long y.2)) (Strm.opened y.2)) (Strm.event y.2)) (Strm.size y.2)) : Nat) + (lstsW (Strm.ends y.2)) : Nat) ≤ 1073741424)) ∧
 (@Eq (List UInt8) (numF (numF (flagF (flagF (numF (numF y.1 (Strm.at_ y.2)) (Strm.line y.2)) (Strm.long y.2)) (Strm.opened y.2)) (Strm.event y.2)) (Strm.size y.2)) (numF (numF (flagF (flagF (numF (numF y.1 (Strm.at_ y.2)) (Strm.line y.2)) (Strm.long y.2)) (Strm.opened y.2)) (Strm.event y.2)) (Strm.size y.2))) ∧
 (@Eq (List Lst) (Strm.ends y.2) (Strm.ends y.2)) ∧
 (@Eq Int (Strm.event y.2) (Strm.event y.2)) ∧
 (@Eq Int (Strm.size y.2) (Strm.size y.2)) ∧
 (@Eq Int (Strm.size y.2) (Strm.size y.2)) ∧
 (@Eq (List Lst) (Strm.ends y.2) (Strm.ends y.2)) ∧
 (@Eq (List Lst) (Strm.ends y.2) (Strm.ends y.2)) ∧
 (@Eq (List Lst) (Strm.ends y.2) (Strm.ends y.2)) ∧
 (Iv (((List.length (lstsF (numF (numF (flagF (flagF (numF (numF y.1 (Strm.at_ y.2)) (Strm.line y.2)) (Strm.long y.2)) (Strm.opened y.2)) (Strm.event y.2)) (Strm.size y.2)) (Strm.ends y.2)) : Nat) + (scnW (Scn.mk (Scn.held (Strm.cur y.2)) (Scn.place (Strm.cur y.2)) (Scn.lists (Strm.cur y.2)))) : Nat) ≤ 536870912)) ∧
 (@Eq (List UInt8) (lstsF (numF (numF (flagF (flagF (numF (numF y.1 (Strm.at_ y.2)) (Strm.line y.2)) (Strm.long y.2)) (Strm.opened y.2)) (Strm.event y.2)) (Strm.size y.2)) (Strm.ends y.2)) (lstsF (numF (numF (flagF (flagF (numF (numF y.1 (Strm.at_ y.2)) (Strm.line y.2)) (Strm.long y.2)) (Strm.opened y.2)) (Strm.event y.2)) (Strm.size y.2)) (Strm.ends y.2))) ∧
 (@Eq (List UInt8) (Scn.held (Strm.cur y.2)) (Scn.held (Strm.cur y.2))) ∧
 (@Eq Int (Scn.place (Strm.cur y.2)) (Scn.place (Strm.cur y.2))) ∧
 (@Eq (List Lst) (Scn.lists (Strm.cur y.2)) (Scn.lists (Strm.cur y.2))) ∧
 (Iv (((List.length (scnF (lstsF (numF (numF (flagF (flagF (numF (numF y.1 (Strm.at_ y.2)) (Strm.line y.2)) (Strm.long y.2)) (Strm.opened y.2)) (Strm.event y.2)) (Strm.size y.2)) (Strm.ends y.2)) (Scn.mk (Scn.held (Strm.cur y.2)) (Scn.place (Strm.cur y.2)) (Scn.lists (Strm.cur y.2)))) : Nat) + (scnW (Scn.mk (Scn.held (Strm.alt y.2)) (Scn.place (Strm.alt y.2)) (Scn.lists (Strm.alt y.2)))) : Nat) ≤ 536870912)) ∧
 (@Eq (List UInt8) (scnF (lstsF (numF (numF (flagF (flagF (numF (numF y.1 (Strm.at_ y.2)) (Strm.line y.2)) (Strm.long y.2)) (Strm.opened y.2)) (Strm.event y.2)) (Strm.size y.2)) (Strm.ends y.2)) (Scn.mk (Scn.held (Strm.cur y.2)) (Scn.place (Strm.cur y.2)) (Scn.lists (Strm.cur y.2)))) (scnF (lstsF (numF (numF (flagF (flagF (numF (numF y.1 (Strm.at_ y.2)) (Strm.line y.2)) (Strm.long y.2)) (Strm.opened y.2)) (Strm.event y.2)) (Strm.size y.2)) (Strm.ends y.2)) (Scn.mk (Scn.held (Strm.cur y.2)) (Scn.place (Strm.cur y.2)) (Scn.lists (Strm.cur y.2))))) ∧
 (@Eq (List UInt8) (Scn.held (Strm.alt y.2)) (Scn.held (Strm.alt y.2))) ∧
 (@Eq Int (Scn.place (Strm.alt y.2)) (Scn.place (Strm.alt y.2))) ∧
 (@Eq (List Lst) (Scn.lists (Strm.alt y.2)) (Scn.lists (Strm.alt y.2))) ∧
 (Iv (((List.length (scnF (scnF (lstsF (numF (numF (flagF (flagF (numF (numF y.1 (Strm.at_ y.2)) (Strm.line y.2)) (Strm.long y.2)) (Strm.opened y.2)) (Strm.event y.2)) (Strm.size y.2)) (Strm.ends y.2)) (Scn.mk (Scn.held (Strm.cur y.2)) (Scn.place (Strm.cur y.2)) (Scn.lists (Strm.cur y.2)))) (Scn.mk (Scn.held (Strm.alt y.2)) (Scn.place (Strm.alt y.2)) (Scn.lists (Strm.alt y.2)))) : Nat) + (scnW (Scn.mk (Scn.held (Strm.con y.2)) (Scn.place (Strm.con y.2)) (Scn.lists (Strm.con y.2)))) : Nat) ≤ 536870912)) ∧
 (@Eq (List UInt8) (scnF (scnF (lstsF (numF (numF (flagF (flagF (numF (numF y.1 (Strm.at_ y.2)) (Strm.line y.2)) (Strm.long y.2)) (Strm.opened y.2)) (Strm.event y.2)) (Strm.size y.2)) (Strm.ends y.2)) (Scn.mk (Scn.held (Strm.cur y.2)) (Scn.place (Strm.cur y.2)) (Scn.lists (Strm.cur y.2)))) (Scn.mk (Scn.held (Strm.alt y.2)) (Scn.place (Strm.alt y.2)) (Scn.lists (Strm.alt y.2)))) (scnF (scnF (lstsF (numF (numF (flagF (flagF (numF (numF y.1 (Strm.at_ y.2)) (Strm.line y.2)) (Strm.long y.2)) (Strm.opened y.2)) (Strm.event y.2)) (Strm.size y.2)) (Strm.ends y.2)) (Scn.mk (Scn.held (Strm.cur y.2)) (Scn.place (Strm.cur y.2)) (Scn.lists (Strm.cur y.2)))) (Scn.mk (Scn.held (Strm.alt y.2)) (Scn.place (Strm.alt y.2)) (Scn.lists (Strm.alt y.2))))) ∧
 (@Eq (List UInt8) (Scn.held (Strm.con y.2)) (Scn.held (Strm.con y.2))) ∧
 (@Eq Int (Scn.place (Strm.con y.2)) (Scn.place (Strm.con y.2))) ∧
 (@Eq (List Lst) (Scn.lists (Strm.con y.2)) (Scn.lists (Strm.con y.2))) ∧
 (@Eq (List UInt8) (Scn.held (Strm.cur y.2)) (Scn.held (Strm.cur y.2))) ∧
 (@Eq Int (Scn.place (Strm.cur y.2)) (Scn.place (Strm.cur y.2))) ∧
 (@Eq (List Lst) (Scn.lists (Strm.cur y.2)) (Scn.lists (Strm.cur y.2))) ∧
 (@Eq (List UInt8) (Scn.held (Strm.alt y.2)) (Scn.held (Strm.alt y.2))) ∧
 (@Eq Int (Scn.place (Strm.alt y.2)) (Scn.place (Strm.alt y.2))) ∧
 (@Eq (List Lst) (Scn.lists (Strm.alt y.2)) (Scn.lists (Strm.alt y.2))) ∧
 (@Eq (List UInt8) (Scn.held (Strm.alt y.2)) (Scn.held (Strm.alt y.2))) ∧
 (@Eq Int (Scn.place (Strm.alt y.2)) (Scn.place (Strm.alt y.2))) ∧
 (@Eq (List Lst) (Scn.lists (Strm.alt y.2)) (Scn.lists (Strm.alt y.2))) ∧
 (@Eq (List UInt8) (Scn.held (Strm.con y.2)) (Scn.held (Strm.con y.2))) ∧
 (@Eq Int (Scn.place (Strm.con y.2)) (Scn.place (Strm.con y.2))) ∧
 (@Eq (List Lst) (Scn.lists (Strm.con y.2)) (Scn.lists (Strm.con y.2))) ∧
 (@Eq (List UInt8) (Scn.held (Strm.con y.2)) (Scn.held (Strm.con y.2))) ∧
 (@Eq Int (Scn.place (Strm.con y.2)) (Scn.place (Strm.con y.2))) ∧
 (@Eq (List Lst) (Scn.lists (Strm.con y.2)) (Scn.lists (Strm.con y.2))) ∧
 (@Eq (List UInt8) (Scn.held (Strm.con y.2)) (Scn.held (Strm.con y.2))) ∧
 (@Eq Int (Scn.place (Strm.con y.2)) (Scn.place (Strm.con y.2))) ∧
 (@Eq (List Lst) (Scn.lists (Strm.con y.2)) (Scn.lists (Strm.con y.2))) ∧
 (@Eq (List UInt8) (scnF (scnF (scnF (lstsF (numF (numF (flagF (flagF (numF (numF y.1 (Strm.at_ y.2)) (Strm.line y.2)) (Strm.long y.2)) (Strm.opened y.2)) (Strm.event y.2)) (Strm.size y.2)) (Strm.ends y.2)) (Scn.mk (Scn.held (Strm.cur y.2)) (Scn.place (Strm.cur y.2)) (Scn.lists (Strm.cur y.2)))) (Scn.mk (Scn.held (Strm.alt y.2)) (Scn.place (Strm.alt y.2)) (Scn.lists (Strm.alt y.2)))) (Scn.mk (Scn.held (Strm.con y.2)) (Scn.place (Strm.con y.2)) (Scn.lists (Strm.con y.2)))) (strmF y.1 y.2)) ∧
 True
theorem strmV_eq : ∀ y, strmVC y = strmV y := fun y => by kernel_rfl
end Go.Proofs.YtacolbfofamocaaGreat.sx
/- Scans and streams as bytes: the contracts hold. -/
namespace Go.Proofs.YtacolbfofamocaaGreat.sx
open Go Go.RowKit
set_option maxRecDepth 100000
theorem textF_len (b s : By) : (textF b s).length ≤ b.length + 9 + s.length := by
  have := numF_len b s.length
  unfold textF
  simp
  omega
theorem lstsF_len (b : By) (l : List Lst) : (lstsF b l).length ≤ b.length + 9 + lstsW l := by
  have := lstsP_len b l l.length
  rw [lstsP_all, List.take_length] at this
  exact this
theorem scnF_len (b : By) (x : Scn) : (scnF b x).length ≤ b.length + scnW x := by
  have h1 := textF_len b x.held
  have h2 := numF_len (textF b x.held) x.place
  have h3 := lstsF_len (numF (textF b x.held) x.place) x.lists
  unfold scnF scnW
  omega
theorem scnH (y : By × Scn) (hy : scnC.pre y) : scnVC y := by
  have h0 : y.1.length + scnW y.2 ≤ 536870912 := hy
  unfold scnW at h0
  have h1 := textF_len y.1 y.2.held
  have h2 := numF_len (textF y.1 y.2.held) y.2.place
  unfold scnVC
  simp only [true_and, and_true]
  exact ⟨⟨by omega, by omega⟩, ⟨by omega⟩, ⟨by omega⟩, rfl⟩
theorem scnOk : Ok scnC := okOf (tab := [textC, numC, plC]) (fn := Tryz.f26) (orc := scnO) (by simp; exact ⟨textOk, numOk, plOk⟩) (by kernel_rfl) (by kernel_rfl) (fun _ => by exact Nat.le_of_ble_eq_true (by kernel_rfl)) fun y hy => Eq.mp (scnV_eq y) (scnH y hy)
theorem strmH (y : By × Strm) (hy : strmC.pre y) : strmVC y := by
  have h0 : y.1.length + 63 + lstsW y.2.ends + scnW y.2.cur + scnW y.2.alt + scnW y.2.con ≤ 536870912 := hy
  have h1 := numF_len y.1 y.2.at_
  have h2 := numF_len (numF y.1 y.2.at_) y.2.line
  generalize hb2 : numF (numF y.1 y.2.at_) y.2.line = b2 at h2
  have h3 := flagF_len b2 y.2.long
  have h4 := flagF_len (flagF b2 y.2.long) y.2.opened
  generalize hb4 : flagF (flagF b2 y.2.long) y.2.opened = b4 at h4
  have h5 := numF_len b4 y.2.event
  have h6 := numF_len (numF b4 y.2.event) y.2.size
  generalize hb6 : numF (numF b4 y.2.event) y.2.size = b6 at h6
  have h7 := lstsF_len b6 y.2.ends
  have h8 := scnF_len (lstsF b6 y.2.ends) y.2.cur
  have h9 := scnF_len (scnF (lstsF b6 y.2.ends) y.2.cur) y.2.alt
  unfold strmVC
  simp only [true_and, and_true, hb2, hb4, hb6]
  refine ⟨⟨by omega⟩, ⟨by omega⟩, ⟨by omega⟩, ⟨by omega⟩, ⟨by omega⟩, ⟨by omega⟩, ⟨by omega⟩, ⟨?_⟩, ⟨?_⟩, ⟨?_⟩, ?_⟩
  · show (lstsF b6 y.2.ends).length + scnW y.2.cur ≤ 536870912; omega
  · show (scnF (lstsF b6 y.2.ends) y.2.cur).length + scnW y.2.alt ≤ 536870912; omega
  · show (scnF (scnF (lstsF b6 y.2.ends) y.2.cur) y.2.alt).length + scnW y.2.con ≤ 536870912; omega
  · unfold strmF; rw [hb2, hb4, hb6]
theorem strmOk : Ok strmC := okOf (tab := [numC, flagC, plC, scnC]) (fn := Tryz.f8) (orc := strmO) (by simp; exact ⟨numOk, flagOk, plOk, scnOk⟩) (by kernel_rfl) (by kernel_rfl) (fun _ => by exact Nat.le_of_ble_eq_true (by kernel_rfl)) fun y hy => Eq.mp (strmV_eq y) (strmH y hy)
end Go.Proofs.YtacolbfofamocaaGreat.sx
/- Contracts of the document's places, lists, scans and streams as bytes. -/
namespace Go.Proofs.YtacolbfofamocaaGreat.sx
open Go Go.RowKit
noncomputable section
def cjO (c : Caps) (j : Nat) : Int := match j with
  | 0 => c.c0 | 1 => c.c1 | 2 => c.c2 | 3 => c.c3 | 4 => c.c4 | 5 => c.c5 | 6 => c.c6 | 7 => c.c7 | 8 => c.c8 | _ => c.c9
def placC : Con D where
  f := 57
  Y := By × Caps
  inp := inBC
  pre := fun y => y.1.length ≤ 1073741724
  args := fun y => [.list 0 y.1, .agg (encD 11 y.2)]
  heap := fun _ => []
  res := fun y => .grow 0 (capsF y.1 y.2) 0
  heap' := fun _ => [(0, .tok 0 5)]
  nx0 := 0
  nx1 := 1
/-- the first places as bytes -/
def capsP (b : By) (c : Caps) (i : Nat) : By := ((capsL c).take i).foldl (fun b x => numF b (capN x)) b
/-- behind each of the two branches of round j the place is seen in one form -/
def placJO (y : placC.Y) (j : Nat) : List (Nat × LoopS D) :=
  [(841 + j * 590295810358705651712, { X := Unit, keep := [3, 5], sl := fun _ => [(0, .list 0 (capsP y.1 y.2 j)), (6, .int .i64 (imax (cjO y.2 j) (-1)))], kp := [0], pc := fun _ => [], nx := 1, inv := fun _ => True, me := fun _ => 0 }),
   (1683 + j * 1180591620717411303424, { X := Unit, keep := [0, 3, 5], sl := fun _ => [(6, .int .i64 (imin (imax (cjO y.2 j) (-1)) 9223372036854775806))], kp := [0], pc := fun _ => [], nx := 1, inv := fun _ => True, me := fun _ => 0 })]
def placO (y : placC.Y) : Orc D := ⟨[(0, .fact 1)], [], [], placJO y 0 ++ placJO y 1 ++ placJO y 2 ++ placJO y 3 ++ placJO y 4 ++ placJO y 5 ++ placJO y 6 ++ placJO y 7 ++ placJO y 8 ++ placJO y 9, 11, []⟩
def placV (y : placC.Y) : Prop := vcOf [rnumC] Tryz.f57 placC placO y
def rplC : Con D := { plC with f := 29, res := fun y => .list 0 (lstsF y.1 y.2), heap' := fun _ => [], nx1 := 0 }
def lAt (l : List Lst) (i : Nat) : Lst := gt dL0 l i
/-- the i-th list's threads as bytes, k of them -/
def lstP (b : By) (t : Lst) (k : Nat) : By := lthrP (capsF (flagF b t.done) (bestOf t)) t.threads k
def rplO (y : rplC.Y) : Orc D := ⟨[], [], [(58, { X := Nat, keep := [1], sl := fun i => [(0, .list 0 (lstsP y.1 y.2 i)), (5, .int .i64 i)], kp := [], pc := fun _ => [], nx := 0, inv := fun i => i ≤ y.2.length, me := fun i => y.2.length - i })], [], 1,
  [(14926, ⟨Nat, fun i => { X := Nat, keep := [1, 5], sl := fun k => [(0, .list 0 (lstP (lstsP y.1 y.2 i) (lAt y.2 i) k)), (6, .int .i64 k)], kp := [], pc := fun _ => [], nx := 0, inv := fun k => k ≤ (lAt y.2 i).threads.length, me := fun k => (lAt y.2 i).threads.length - k }⟩)]⟩
def rplV (y : rplC.Y) : Prop := vcOf [rnumC, rflagC, placC] Tryz.f29 rplC rplO y
end
end Go.Proofs.YtacolbfofamocaaGreat.sx
/- Conditions, as a tool printed them; that they are the functions' own the kernel computes. -/
namespace Go.Proofs.YtacolbfofamocaaGreat.sx
open Go Go.RowKit
def placVC (y : Prod (List UInt8) Caps) : Prop :=
 (((inR IntKind.i64 (Caps.c0 y.2)) = true) ∧ ((inR IntKind.i64 (Caps.c1 y.2)) = true) ∧ ((inR IntKind.i64 (Caps.c2 y.2)) = true) ∧ ((inR IntKind.i64 (Caps.c3 y.2)) = true) ∧ ((inR IntKind.i64 (Caps.c4 y.2)) = true) ∧ ((inR IntKind.i64 (Caps.c5 y.2)) = true) ∧ ((inR IntKind.i64 (Caps.c6 y.2)) = true) ∧ ((inR IntKind.i64 (Caps.c7 y.2)) = true) ∧ ((inR IntKind.i64 (Caps.c8 y.2)) = true) ∧ ((inR IntKind.i64 (Caps.c9 y.2)) = true) ∧ True) →
  (
  (
  ((ilt (Caps.c0 y.2) (Neg.neg (1 : Int))) = true) →
  ∃ _z : Unit,
  (@Eq (List UInt8) y.1 (capsP y.1 y.2 0)) ∧
  (@Eq Int (Neg.neg (1 : Int)) (imax (Caps.c0 y.2) (Neg.neg (1 : Int)))) ∧
  Rfs ((capsL y.2 : List Int)) (
  (Iv True))) ∧
  (
  ((ilt (Caps.c0 y.2) (Neg.neg (1 : Int))) = false) →
  ∃ _z : Unit,
  (@Eq (List UInt8) y.1 (capsP y.1 y.2 0)) ∧
  (@Eq Int (Caps.c0 y.2) (imax (Caps.c0 y.2) (Neg.neg (1 : Int)))) ∧
  Rfs ((capsL y.2 : List Int)) (
  (Iv True)))) ∧
  (
  ∀ _x : Unit,
  (Iv True) →
  (
  (
  ((ieq (imax (Caps.c0 y.2) (Neg.neg (1 : Int))) (9223372036854775807 : Int)) = true) →
  ∃ _z : Unit,
  Rfs (([capsP y.1 y.2 0] : List (List UInt8))) (
  (@Eq Int (isub IntKind.i64 (imax (Caps.c0 y.2) (Neg.neg (1 : Int))) (1 : Int)) (imin (imax (Caps.c0 y.2) (Neg.neg (1 : Int))) (9223372036854775806 : Int))) ∧
  Rfs ((capsL y.2 : List Int)) (
  (Iv True)))) ∧
  (
  ((ieq (imax (Caps.c0 y.2) (Neg.neg (1 : Int))) (9223372036854775807 : Int)) = false) →
  ∃ _z : Unit,
  Rfs (([capsP y.1 y.2 0] : List (List UInt8))) (
  (@Eq Int (imax (Caps.c0 y.2) (Neg.neg (1 : Int))) (imin (imax (Caps.c0 y.2) (Neg.neg (1 : Int))) (9223372036854775806 : Int))) ∧
  Rfs ((capsL y.2 : List Int)) (
  (Iv True))))) ∧
  (
  ∀ _x1 : Unit,
  (Iv True) →
  (Iv ((List.length (capsP y.1 y.2 0) : Nat) ≤ 1073741824)) ∧
  Rfs (([capsP y.1 y.2 0] : List (List UInt8))) (
  Rfs (([iadd IntKind.i64 (imin (imax (Caps.c0 y.2) (Neg.neg (1 : Int))) (9223372036854775806 : Int)) (1 : Int)] : List Int)) (
  (
  (
  ((ilt (Caps.c1 y.2) (Neg.neg (1 : Int))) = true) →
  ∃ _z : Unit,
  (@Eq (List UInt8) (numF (capsP y.1 y.2 0) (iadd IntKind.i64 (imin (imax (Caps.c0 y.2) (Neg.neg (1 : Int))) (9223372036854775806 : Int)) (1 : Int))) (capsP y.1 y.2 1)) ∧
  (@Eq Int (Neg.neg (1 : Int)) (imax (Caps.c1 y.2) (Neg.neg (1 : Int)))) ∧
  Rfs ((capsL y.2 : List Int)) (
  (Iv True))) ∧
  (
  ((ilt (Caps.c1 y.2) (Neg.neg (1 : Int))) = false) →
  ∃ _z : Unit,
  (@Eq (List UInt8) (numF (capsP y.1 y.2 0) (iadd IntKind.i64 (imin (imax (Caps.c0 y.2) (Neg.neg (1 : Int))) (9223372036854775806 : Int)) (1 : Int))) (capsP y.1 y.2 1)) ∧
  (@Eq Int (Caps.c1 y.2) (imax (Caps.c1 y.2) (Neg.neg (1 : Int)))) ∧
  Rfs ((capsL y.2 : List Int)) (
  (Iv True)))) ∧
  (
  ∀ _x2 : Unit,
  (Iv True) →
  (
  (
  ((ieq (imax (Caps.c1 y.2) (Neg.neg (1 : Int))) (9223372036854775807 : Int)) = true) →
  ∃ _z : Unit,
  Rfs (([capsP y.1 y.2 1] : List (List UInt8))) (
  (@Eq Int (isub IntKind.i64 (imax (Caps.c1 y.2) (Neg.neg (1 : Int))) (1 : Int)) (imin (imax (Caps.c1 y.2) (Neg.neg (1 : Int))) (9223372036854775806 : Int))) ∧
  Rfs ((capsL y.2 : List Int)) (
  (Iv True)))) ∧
  (
  ((ieq (imax (Caps.c1 y.2) (Neg.neg (1 : Int))) (9223372036854775807 : Int)) = false) →
  ∃ _z : Unit,
  Rfs (([capsP y.1 y.2 1] : List (List UInt8))) (
  (@Eq Int (imax (Caps.c1 y.2) (Neg.neg (1 : Int))) (imin (imax (Caps.c1 y.2) (Neg.neg (1 : Int))) (9223372036854775806 : Int))) ∧
  Rfs ((capsL y.2 : List Int)) (
  (Iv True))))) ∧
  (
  ∀ _x3 : Unit,
  (Iv True) →
  (Iv ((List.length (capsP y.1 y.2 1) : Nat) ≤ 1073741824)) ∧
  Rfs (([capsP y.1 y.2 1] : List (List UInt8))) (
  Rfs (([iadd IntKind.i64 (imin (imax (Caps.c1 y.2) (Neg.neg (1 : Int))) (9223372036854775806 : Int)) (1 : Int)] : List Int)) (
  (
  (
  ((ilt (Caps.c2 y.2) (Neg.neg (1 : Int))) = true) →
  ∃ _z : Unit,
  (@Eq (List UInt8) (numF (capsP y.1 y.2 1) (iadd IntKind.i64 (imin (imax (Caps.c1 y.2) (Neg.neg (1 : Int))) (9223372036854775806 : Int)) (1 : Int))) (capsP y.1 y.2 2)) ∧
  (@Eq Int (Neg.neg (1 : Int)) (imax (Caps.c2 y.2) (Neg.neg (1 : Int)))) ∧
  Rfs ((capsL y.2 : List Int)) (
  (Iv True))) ∧
  (
  ((ilt (Caps.c2 y.2) (Neg.neg (1 : Int))) = false) →
  ∃ _z : Unit,
  (@Eq (List UInt8) (numF (capsP y.1 y.2 1) (iadd IntKind.i64 (imin (imax (Caps.c1 y.2) (Neg.neg (1 : Int))) (9223372036854775806 : Int)) (1 : Int))) (capsP y.1 y.2 2)) ∧
  (@Eq Int (Caps.c2 y.2) (imax (Caps.c2 y.2) (Neg.neg (1 : Int)))) ∧
  Rfs ((capsL y.2 : List Int)) (
  (Iv True)))) ∧
  (
  ∀ _x4 : Unit,
  (Iv True) →
  (
  (
  ((ieq (imax (Caps.c2 y.2) (Neg.neg (1 : Int))) (9223372036854775807 : Int)) = true) →
  ∃ _z : Unit,
  Rfs (([capsP y.1 y.2 2] : List (List UInt8))) (
  (@Eq Int (isub IntKind.i64 (imax (Caps.c2 y.2) (Neg.neg (1 : Int))) (1 : Int)) (imin (imax (Caps.c2 y.2) (Neg.neg (1 : Int))) (9223372036854775806 : Int))) ∧
  Rfs ((capsL y.2 : List Int)) (
  (Iv True)))) ∧
  (
  ((ieq (imax (Caps.c2 y.2) (Neg.neg (1 : Int))) (9223372036854775807 : Int)) = false) →
  ∃ _z : Unit,
  Rfs (([capsP y.1 y.2 2] : List (List UInt8))) (
  (@Eq Int (imax (Caps.c2 y.2) (Neg.neg (1 : Int))) (imin (imax (Caps.c2 y.2) (Neg.neg (1 : Int))) (9223372036854775806 : Int))) ∧
  Rfs ((capsL y.2 : List Int)) (
  (Iv True))))) ∧
  (
  ∀ _x5 : Unit,
  (Iv True) →
  (Iv ((List.length (capsP y.1 y.2 2) : Nat) ≤ 1073741824)) ∧
  Rfs (([capsP y.1 y.2 2] : List (List UInt8))) (
  Rfs (([iadd IntKind.i64 (imin (imax (Caps.c2 y.2) (Neg.neg (1 : Int))) (9223372036854775806 : Int)) (1 : Int)] : List Int)) (
  (
  (
  ((ilt (Caps.c3 y.2) (Neg.neg (1 : Int))) = true) →
  ∃ _z : Unit,
  (@Eq (List UInt8) (numF (capsP y.1 y.2 2) (iadd IntKind.i64 (imin (imax (Caps.c2 y.2) (Neg.neg (1 : Int))) (9223372036854775806 : Int)) (1 : Int))) (capsP y.1 y.2 3)) ∧
  (@Eq Int (Neg.neg (1 : Int)) (imax (Caps.c3 y.2) (Neg.neg (1 : Int)))) ∧
  Rfs ((capsL y.2 : List Int)) (
  (Iv True))) ∧
  (
  ((ilt (Caps.c3 y.2) (Neg.neg (1 : Int))) = false) →
  ∃ _z : Unit,
  (@Eq (List UInt8) (numF (capsP y.1 y.2 2) (iadd IntKind.i64 (imin (imax (Caps.c2 y.2) (Neg.neg (1 : Int))) (9223372036854775806 : Int)) (1 : Int))) (capsP y.1 y.2 3)) ∧
  (@Eq Int (Caps.c3 y.2) (imax (Caps.c3 y.2) (Neg.neg (1 : Int)))) ∧
  Rfs ((capsL y.2 : List Int)) (
  (Iv True)))) ∧
  (
  ∀ _x6 : Unit,
  (Iv True) →
  (
  (
  ((ieq (imax (Caps.c3 y.2) (Neg.neg (1 : Int))) (9223372036854775807 : Int)) = true) →
  ∃ _z : Unit,
  Rfs (([capsP y.1 y.2 3] : List (List UInt8))) (
  (@Eq Int (isub IntKind.i64 (imax (Caps.c3 y.2) (Neg.neg (1 : Int))) (1 : Int)) (imin (imax (Caps.c3 y.2) (Neg.neg (1 : Int))) (9223372036854775806 : Int))) ∧
  Rfs ((capsL y.2 : List Int)) (
  (Iv True)))) ∧
  (
  ((ieq (imax (Caps.c3 y.2) (Neg.neg (1 : Int))) (9223372036854775807 : Int)) = false) →
  ∃ _z : Unit,
  Rfs (([capsP y.1 y.2 3] : List (List UInt8))) (
  (@Eq Int (imax (Caps.c3 y.2) (Neg.neg (1 : Int))) (imin (imax (Caps.c3 y.2) (Neg.neg (1 : Int))) (9223372036854775806 : Int))) ∧
  Rfs ((capsL y.2 : List Int)) (
  (Iv True))))) ∧
  (
  ∀ _x7 : Unit,
  (Iv True) →
  (Iv ((List.length (capsP y.1 y.2 3) : Nat) ≤ 1073741824)) ∧
  Rfs (([capsP y.1 y.2 3] : List (List UInt8))) (
  Rfs (([iadd IntKind.i64 (imin (imax (Caps.c3 y.2) (Neg.neg (1 : Int))) (9223372036854775806 : Int)) (1 : Int)] : List Int)) (
  (
  (
  ((ilt (Caps.c4 y.2) (Neg.neg (1 : Int))) = true) →
  ∃ _z : Unit,
  (@Eq (List UInt8) (numF (capsP y.1 y.2 3) (iadd IntKind.i64 (imin (imax (Caps.c3 y.2) (Neg.neg (1 : Int))) (9223372036854775806 : Int)) (1 : Int))) (capsP y.1 y.2 4)) ∧
  (@Eq Int (Neg.neg (1 : Int)) (imax (Caps.c4 y.2) (Neg.neg (1 : Int)))) ∧
  Rfs ((capsL y.2 : List Int)) (
  (Iv True))) ∧
  (
  ((ilt (Caps.c4 y.2) (Neg.neg (1 : Int))) = false) →
  ∃ _z : Unit,
  (@Eq (List UInt8) (numF (capsP y.1 y.2 3) (iadd IntKind.i64 (imin (imax (Caps.c3 y.2) (Neg.neg (1 : Int))) (9223372036854775806 : Int)) (1 : Int))) (capsP y.1 y.2 4)) ∧
  (@Eq Int (Caps.c4 y.2) (imax (Caps.c4 y.2) (Neg.neg (1 : Int)))) ∧
  Rfs ((capsL y.2 : List Int)) (
  (Iv True)))) ∧
  (
  ∀ _x8 : Unit,
  (Iv True) →
  (
  (
  ((ieq (imax (Caps.c4 y.2) (Neg.neg (1 : Int))) (9223372036854775807 : Int)) = true) →
  ∃ _z : Unit,
  Rfs (([capsP y.1 y.2 4] : List (List UInt8))) (
  (@Eq Int (isub IntKind.i64 (imax (Caps.c4 y.2) (Neg.neg (1 : Int))) (1 : Int)) (imin (imax (Caps.c4 y.2) (Neg.neg (1 : Int))) (9223372036854775806 : Int))) ∧
  Rfs ((capsL y.2 : List Int)) (
  (Iv True)))) ∧
  (
  ((ieq (imax (Caps.c4 y.2) (Neg.neg (1 : Int))) (9223372036854775807 : Int)) = false) →
  ∃ _z : Unit,
  Rfs (([capsP y.1 y.2 4] : List (List UInt8))) (
  (@Eq Int (imax (Caps.c4 y.2) (Neg.neg (1 : Int))) (imin (imax (Caps.c4 y.2) (Neg.neg (1 : Int))) (9223372036854775806 : Int))) ∧
  Rfs ((capsL y.2 : List Int)) (
  (Iv True))))) ∧
  (
  ∀ _x9 : Unit,
  (Iv True) →
  (Iv ((List.length (capsP y.1 y.2 4) : Nat) ≤ 1073741824)) ∧
  Rfs (([capsP y.1 y.2 4] : List (List UInt8))) (
  Rfs (([iadd IntKind.i64 (imin (imax (Caps.c4 y.2) (Neg.neg (1 : Int))) (9223372036854775806 : Int)) (1 : Int)] : List Int)) (
  (
  (
  ((ilt (Caps.c5 y.2) (Neg.neg (1 : Int))) = true) →
  ∃ _z : Unit,
  (@Eq (List UInt8) (numF (capsP y.1 y.2 4) (iadd IntKind.i64 (imin (imax (Caps.c4 y.2) (Neg.neg (1 : Int))) (9223372036854775806 : Int)) (1 : Int))) (capsP y.1 y.2 (5 : Nat))) ∧
  (@Eq Int (Neg.neg (1 : Int)) (imax (Caps.c5 y.2) (Neg.neg (1 : Int)))) ∧
  Rfs ((capsL y.2 : List Int)) (
  (Iv True))) ∧
  (
  ((ilt (Caps.c5 y.2) (Neg.neg (1 : Int))) = false) →
  ∃ _z : Unit,
  (@Eq (List UInt8) (numF (capsP y.1 y.2 4) (iadd IntKind.i64 (imin (imax (Caps.c4 y.2) (Neg.neg (1 : Int))) (9223372036854775806 : Int)) (1 : Int))) (capsP y.1 y.2 (5 : Nat))) ∧
  (@Eq Int (Caps.c5 y.2) (imax (Caps.c5 y.2) (Neg.neg (1 : Int)))) ∧
  Rfs ((capsL y.2 : List Int)) (
  (Iv True)))) ∧
  (
  ∀ _x10 : Unit,
  (Iv True) →
  (
  (
  ((ieq (imax (Caps.c5 y.2) (Neg.neg (1 : Int))) (9223372036854775807 : Int)) = true) →
  ∃ _z : Unit,
  Rfs (([capsP y.1 y.2 (5 : Nat)] : List (List UInt8))) (
  (@Eq Int (isub IntKind.i64 (imax (Caps.c5 y.2) (Neg.neg (1 : Int))) (1 : Int)) (imin (imax (Caps.c5 y.2) (Neg.neg (1 : Int))) (9223372036854775806 : Int))) ∧
  Rfs ((capsL y.2 : List Int)) (
  (Iv True)))) ∧
  (
  ((ieq (imax (Caps.c5 y.2) (Neg.neg (1 : Int))) (9223372036854775807 : Int)) = false) →
  ∃ _z : Unit,
  Rfs (([capsP y.1 y.2 (5 : Nat)] : List (List UInt8))) (
  (@Eq Int (imax (Caps.c5 y.2) (Neg.neg (1 : Int))) (imin (imax (Caps.c5 y.2) (Neg.neg (1 : Int))) (9223372036854775806 : Int))) ∧
  Rfs ((capsL y.2 : List Int)) (
  (Iv True))))) ∧
  (
  ∀ _x11 : Unit,
  (Iv True) →
  (Iv ((List.length (capsP y.1 y.2 (5 : Nat)) : Nat) ≤ 1073741824)) ∧
  Rfs (([capsP y.1 y.2 (5 : Nat)] : List (List UInt8))) (
  Rfs (([iadd IntKind.i64 (imin (imax (Caps.c5 y.2) (Neg.neg (1 : Int))) (9223372036854775806 : Int)) (1 : Int)] : List Int)) (
  (
  (
  ((ilt (Caps.c6 y.2) (Neg.neg (1 : Int))) = true) →
  ∃ _z : Unit,
  (@Eq (List UInt8) (numF (capsP y.1 y.2 (5 : Nat)) (iadd IntKind.i64 (imin (imax (Caps.c5 y.2) (Neg.neg (1 : Int))) (9223372036854775806 : Int)) (1 : Int))) (capsP y.1 y.2 6)) ∧
  (@Eq Int (Neg.neg (1 : Int)) (imax (Caps.c6 y.2) (Neg.neg (1 : Int)))) ∧
  Rfs ((capsL y.2 : List Int)) (
  (Iv True))) ∧
  (
  ((ilt (Caps.c6 y.2) (Neg.neg (1 : Int))) = false) →
  ∃ _z : Unit,
  (@Eq (List UInt8) (numF (capsP y.1 y.2 (5 : Nat)) (iadd IntKind.i64 (imin (imax (Caps.c5 y.2) (Neg.neg (1 : Int))) (9223372036854775806 : Int)) (1 : Int))) (capsP y.1 y.2 6)) ∧
  (@Eq Int (Caps.c6 y.2) (imax (Caps.c6 y.2) (Neg.neg (1 : Int)))) ∧
  Rfs ((capsL y.2 : List Int)) (
  (Iv True)))) ∧
  (
  ∀ _x12 : Unit,
  (Iv True) →
  (
  (
  ((ieq (imax (Caps.c6 y.2) (Neg.neg (1 : Int))) (9223372036854775807 : Int)) = true) →
  ∃ _z : Unit,
  Rfs (([capsP y.1 y.2 6] : List (List UInt8))) (
  (@Eq Int (isub IntKind.i64 (imax (Caps.c6 y.2) (Neg.neg (1 : Int))) (1 : Int)) (imin (imax (Caps.c6 y.2) (Neg.neg (1 : Int))) (9223372036854775806 : Int))) ∧
  Rfs ((capsL y.2 : List Int)) (
  (Iv True)))) ∧
  (
  ((ieq (imax (Caps.c6 y.2) (Neg.neg (1 : Int))) (9223372036854775807 : Int)) = false) →
  ∃ _z : Unit,
  Rfs (([capsP y.1 y.2 6] : List (List UInt8))) (
  (@Eq Int (imax (Caps.c6 y.2) (Neg.neg (1 : Int))) (imin (imax (Caps.c6 y.2) (Neg.neg (1 : Int))) (9223372036854775806 : Int))) ∧
  Rfs ((capsL y.2 : List Int)) (
  (Iv True))))) ∧
  (
  ∀ _x13 : Unit,
  (Iv True) →
  (Iv ((List.length (capsP y.1 y.2 6) : Nat) ≤ 1073741824)) ∧
  Rfs (([capsP y.1 y.2 6] : List (List UInt8))) (
  Rfs (([iadd IntKind.i64 (imin (imax (Caps.c6 y.2) (Neg.neg (1 : Int))) (9223372036854775806 : Int)) (1 : Int)] : List Int)) (
  (
  (
  ((ilt (Caps.c7 y.2) (Neg.neg (1 : Int))) = true) →
  ∃ _z : Unit,
  (@Eq (List UInt8) (numF (capsP y.1 y.2 6) (iadd IntKind.i64 (imin (imax (Caps.c6 y.2) (Neg.neg (1 : Int))) (9223372036854775806 : Int)) (1 : Int))) (capsP y.1 y.2 7)) ∧
  (@Eq Int (Neg.neg (1 : Int)) (imax (Caps.c7 y.2) (Neg.neg (1 : Int)))) ∧
  Rfs ((capsL y.2 : List Int)) (
  (Iv True))) ∧
  (
  ((ilt (Caps.c7 y.2) (Neg.neg (1 : Int))) = false) →
  ∃ _z : Unit,
  (@Eq (List UInt8) (numF (capsP y.1 y.2 6) (iadd IntKind.i64 (imin (imax (Caps.c6 y.2) (Neg.neg (1 : Int))) (9223372036854775806 : Int)) (1 : Int))) (capsP y.1 y.2 7)) ∧
  (@Eq Int (Caps.c7 y.2) (imax (Caps.c7 y.2) (Neg.neg (1 : Int)))) ∧
  Rfs ((capsL y.2 : List Int)) (
  (Iv True)))) ∧
  (
  ∀ _x14 : Unit,
  (Iv True) →
  (
  (
  ((ieq (imax (Caps.c7 y.2) (Neg.neg (1 : Int))) (9223372036854775807 : Int)) = true) →
  ∃ _z : Unit,
  Rfs (([capsP y.1 y.2 7] : List (List UInt8))) (
  (@Eq Int (isub IntKind.i64 (imax (Caps.c7 y.2) (Neg.neg (1 : Int))) (1 : Int)) (imin (imax (Caps.c7 y.2) (Neg.neg (1 : Int))) (9223372036854775806 : Int))) ∧
  Rfs ((capsL y.2 : List Int)) (
  (Iv True)))) ∧
  (
  ((ieq (imax (Caps.c7 y.2) (Neg.neg (1 : Int))) (9223372036854775807 : Int)) = false) →
  ∃ _z : Unit,
  Rfs (([capsP y.1 y.2 7] : List (List UInt8))) (
  (@Eq Int (imax (Caps.c7 y.2) (Neg.neg (1 : Int))) (imin (imax (Caps.c7 y.2) (Neg.neg (1 : Int))) (9223372036854775806 : Int))) ∧
  Rfs ((capsL y.2 : List Int)) (
  (Iv True))))) ∧
  (
  ∀ _x15 : Unit,
  (Iv True) →
  (Iv ((List.length (capsP y.1 y.2 7) : Nat) ≤ 1073741824)) ∧
  Rfs (([capsP y.1 y.2 7] : List (List UInt8))) (
  Rfs (([iadd IntKind.i64 (imin (imax (Caps.c7 y.2) (Neg.neg (1 : Int))) (9223372036854775806 : Int)) (1 : Int)] : List Int)) (
  (
  (
  ((ilt (Caps.c8 y.2) (Neg.neg (1 : Int))) = true) →
  ∃ _z : Unit,
  (@Eq (List UInt8) (numF (capsP y.1 y.2 7) (iadd IntKind.i64 (imin (imax (Caps.c7 y.2) (Neg.neg (1 : Int))) (9223372036854775806 : Int)) (1 : Int))) (capsP y.1 y.2 8)) ∧
  (@Eq Int (Neg.neg (1 : Int)) (imax (Caps.c8 y.2) (Neg.neg (1 : Int)))) ∧
  Rfs ((capsL y.2 : List Int)) (
  (Iv True))) ∧
  (
  ((ilt (Caps.c8 y.2) (Neg.neg (1 : Int))) = false) →
  ∃ _z : Unit,
  (@Eq (List UInt8) (numF (capsP y.1 y.2 7) (iadd IntKind.i64 (imin (imax (Caps.c7 y.2) (Neg.neg (1 : Int))) (9223372036854775806 : Int)) (1 : Int))) (capsP y.1 y.2 8)) ∧
  (@Eq Int (Caps.c8 y.2) (imax (Caps.c8 y.2) (Neg.neg (1 : Int)))) ∧
  Rfs ((capsL y.2 : List Int)) (
  (Iv True)))) ∧
  (
  ∀ _x16 : Unit,
  (Iv True) →
  (
  (
  ((ieq (imax (Caps.c8 y.2) (Neg.neg (1 : Int))) (9223372036854775807 : Int)) = true) →
  ∃ _z : Unit,
  Rfs (([capsP y.1 y.2 8] : List (List UInt8))) (
  (@Eq Int (isub IntKind.i64 (imax (Caps.c8 y.2) (Neg.neg (1 : Int))) (1 : Int)) (imin (imax (Caps.c8 y.2) (Neg.neg (1 : Int))) (9223372036854775806 : Int))) ∧
  Rfs ((capsL y.2 : List Int)) (
  (Iv True)))) ∧
  (
  ((ieq (imax (Caps.c8 y.2) (Neg.neg (1 : Int))) (9223372036854775807 : Int)) = false) →
  ∃ _z : Unit,
  Rfs (([capsP y.1 y.2 8] : List (List UInt8))) (
  (@Eq Int (imax (Caps.c8 y.2) (Neg.neg (1 : Int))) (imin (imax (Caps.c8 y.2) (Neg.neg (1 : Int))) (9223372036854775806 : Int))) ∧
  Rfs ((capsL y.2 : List Int)) (
  (Iv True))))) ∧
  (
  ∀ _x17 : Unit,
  (Iv True) →
  (Iv ((List.length (capsP y.1 y.2 8) : Nat) ≤ 1073741824)) ∧
  Rfs (([capsP y.1 y.2 8] : List (List UInt8))) (
  Rfs (([iadd IntKind.i64 (imin (imax (Caps.c8 y.2) (Neg.neg (1 : Int))) (9223372036854775806 : Int)) (1 : Int)] : List Int)) (
  (
  (
  ((ilt (Caps.c9 y.2) (Neg.neg (1 : Int))) = true) →
  ∃ _z : Unit,
  (@Eq (List UInt8) (numF (capsP y.1 y.2 8) (iadd IntKind.i64 (imin (imax (Caps.c8 y.2) (Neg.neg (1 : Int))) (9223372036854775806 : Int)) (1 : Int))) (capsP y.1 y.2 9)) ∧
  (@Eq Int (Neg.neg (1 : Int)) (imax (Caps.c9 y.2) (Neg.neg (1 : Int)))) ∧
  Rfs ((capsL y.2 : List Int)) (
  (Iv True))) ∧
  (
  ((ilt (Caps.c9 y.2) (Neg.neg (1 : Int))) = false) →
  ∃ _z : Unit,
  (@Eq (List UInt8) (numF (capsP y.1 y.2 8) (iadd IntKind.i64 (imin (imax (Caps.c8 y.2) (Neg.neg (1 : Int))) (9223372036854775806 : Int)) (1 : Int))) (capsP y.1 y.2 9)) ∧
  (@Eq Int (Caps.c9 y.2) (imax (Caps.c9 y.2) (Neg.neg (1 : Int)))) ∧
  Rfs ((capsL y.2 : List Int)) (
  (Iv True)))) ∧
  (
  ∀ _x18 : Unit,
  (Iv True) →
  (
  (
  ((ieq (imax (Caps.c9 y.2) (Neg.neg (1 : Int))) (9223372036854775807 : Int)) = true) →
  ∃ _z : Unit,
  Rfs (([capsP y.1 y.2 9] : List (List UInt8))) (
  (@Eq Int (isub IntKind.i64 (imax (Caps.c9 y.2) (Neg.neg (1 : Int))) (1 : Int)) (imin (imax (Caps.c9 y.2) (Neg.neg (1 : Int))) (9223372036854775806 : Int))) ∧
  Rfs ((capsL y.2 : List Int)) (
  (Iv True)))) ∧
  (
  ((ieq (imax (Caps.c9 y.2) (Neg.neg (1 : Int))) (9223372036854775807 : Int)) = false) →
  ∃ _z : Unit,
  Rfs (([capsP y.1 y.2 9] : List (List UInt8))) (
  (@Eq Int (imax (Caps.c9 y.2) (Neg.neg (1 : Int))) (imin (imax (Caps.c9 y.2) (Neg.neg (1 : Int))) (9223372036854775806 : Int))) ∧
  Rfs ((capsL y.2 : List Int)) (
  (Iv True))))) ∧
  (
  ∀ _x19 : Unit,
  (Iv True) →
  (Iv ((List.length (capsP y.1 y.2 9) : Nat) ≤ 1073741824)) ∧
  Rfs (([capsP y.1 y.2 9] : List (List UInt8))) (
  Rfs (([iadd IntKind.i64 (imin (imax (Caps.c9 y.2) (Neg.neg (1 : Int))) (9223372036854775806 : Int)) (1 : Int)] : List Int)) (
  (@Eq (List UInt8) (numF (capsP y.1 y.2 9) (iadd IntKind.i64 (imin (imax (Caps.c9 y.2) (Neg.neg (1 : Int))) (9223372036854775806 : Int)) (1 : Int))) (capsF y.1 y.2)) ∧
  True))))))))))))))))))))))))))))))))))))))))
theorem placV_eq : ∀ y, placVC y = placV y := fun y => by kernel_rfl
def rplVC (y : Prod (List UInt8) (List Lst)) : Prop :=
 (Iv ((List.length y.1 : Nat) ≤ 1073741824)) ∧
 Rfs (([y.1] : List (List UInt8))) (
  Rfs (([llen y.2] : List Int)) (
  (
  ∃ z : Nat,
  Rfs (([y.2] : List (List Lst))) (
  (@Eq (List UInt8) (numF y.1 (llen y.2)) (lstsP y.1 y.2 z)) ∧
  (@Eq Int (0 : Int) ((z : Nat) : Int)) ∧
  (Iv ((z : Nat) ≤ (List.length y.2))))) ∧
  (
  ∀ x : Nat,
  (Iv ((x : Nat) ≤ (List.length y.2))) →
  (
  ((ilt ((x : Nat) : Int) (llen y.2)) = true) →
  ((ile (0 : Int) ((x : Nat) : Int)) = true) ∧
  ((ilt ((x : Nat) : Int) (llen y.2)) = true) ∧
  (Iv ((List.length (lstsP y.1 y.2 x) : Nat) ≤ 1073741824)) ∧
  Rfs (([lstsP y.1 y.2 x] : List (List UInt8))) (
  Rfs (([Lst.done (gN dL0 y.2 x)] : List Bool)) (
  ((ile (0 : Int) ((x : Nat) : Int)) = true) ∧
  ((ilt ((x : Nat) : Int) (llen y.2)) = true) ∧
  (Iv ((List.length (flagF (lstsP y.1 y.2 x) (Lst.done (gN dL0 y.2 x))) : Nat) ≤ 1073741724)) ∧
  Rfs (([flagF (lstsP y.1 y.2 x) (Lst.done (gN dL0 y.2 x))] : List (List UInt8))) (
  Rfs ((capsL (bestOf (gN dL0 y.2 x)) : List Int)) (
  Rfs (([Lst.done (gN dL0 y.2 x)] : List Bool)) (
  Rfs ((capsL (bestOf (gN dL0 y.2 x)) ++ capsL (bestOf (gN dL0 y.2 x)) : List Int)) (
  ((ile (0 : Int) ((x : Nat) : Int)) = true) ∧
  ((ilt ((x : Nat) : Int) (llen y.2)) = true) ∧
  (Iv ((List.length (capsF (flagF (lstsP y.1 y.2 x) (Lst.done (gN dL0 y.2 x))) (bestOf (gN dL0 y.2 x))) : Nat) ≤ 1073741824)) ∧
  Rfs (([capsF (flagF (lstsP y.1 y.2 x) (Lst.done (gN dL0 y.2 x))) (bestOf (gN dL0 y.2 x))] : List (List UInt8))) (
  Rfs (([llen (Lst.threads (gN dL0 y.2 x))] : List Int)) (
  ∃ z : Nat,
  (
  ∃ z1 : Nat,
  Rfs (([y.2] : List (List Lst))) (
  Rfs (([((x : Nat) : Int)] : List Int)) (
  (@Eq (List UInt8) (numF (capsF (flagF (lstsP y.1 y.2 x) (Lst.done (gN dL0 y.2 x))) (bestOf (gN dL0 y.2 x))) (llen (Lst.threads (gN dL0 y.2 x)))) (lstP (lstsP y.1 y.2 z) (lAt y.2 z) z1)) ∧
  (@Eq Int (0 : Int) ((z1 : Nat) : Int)) ∧
  (Iv ((z1 : Nat) ≤ (List.length (Lst.threads (lAt y.2 z)))))))) ∧
  (
  ∀ x1 : Nat,
  (Iv ((x1 : Nat) ≤ (List.length (Lst.threads (lAt y.2 z))))) →
  ((ile (0 : Int) ((x : Nat) : Int)) = true) ∧
  ((ilt ((x : Nat) : Int) (llen y.2)) = true) ∧
  (
  ((ilt ((x1 : Nat) : Int) (llen (Lst.threads (gN dL0 y.2 x)))) = true) →
  ((ile (0 : Int) ((x : Nat) : Int)) = true) ∧
  ((ilt ((x : Nat) : Int) (llen y.2)) = true) ∧
  ((ile (0 : Int) ((x1 : Nat) : Int)) = true) ∧
  ((ilt ((x1 : Nat) : Int) (llen (Lst.threads (gN dL0 y.2 x)))) = true) ∧
  (Iv ((List.length (lstP (lstsP y.1 y.2 z) (lAt y.2 z) x1) : Nat) ≤ 1073741824)) ∧
  Rfs (([lstP (lstsP y.1 y.2 z) (lAt y.2 z) x1] : List (List UInt8))) (
  Rfs (([Thread.pc (gN dT0 (Lst.threads (gN dL0 y.2 x)) x1)] : List Int)) (
  ((ile (0 : Int) ((x : Nat) : Int)) = true) ∧
  ((ilt ((x : Nat) : Int) (llen y.2)) = true) ∧
  ((ile (0 : Int) ((x1 : Nat) : Int)) = true) ∧
  ((ilt ((x1 : Nat) : Int) (llen (Lst.threads (gN dL0 y.2 x)))) = true) ∧
  (Iv ((List.length (numF (lstP (lstsP y.1 y.2 z) (lAt y.2 z) x1) (Thread.pc (gN dT0 (Lst.threads (gN dL0 y.2 x)) x1))) : Nat) ≤ 1073741724)) ∧
  Rfs (([numF (lstP (lstsP y.1 y.2 z) (lAt y.2 z) x1) (Thread.pc (gN dT0 (Lst.threads (gN dL0 y.2 x)) x1))] : List (List UInt8))) (
  Rfs ((capsL (capsOf (gN dT0 (Lst.threads (gN dL0 y.2 x)) x1)) : List Int)) (
  Rfs (([Lst.threads (gN dL0 y.2 x)] : List (List Thread))) (
  Rfs (([Thread.pc (gN dT0 (Lst.threads (gN dL0 y.2 x)) x1)] : List Int)) (
  Rfs (([Lst.threads (gN dL0 y.2 x), Lst.threads (gN dL0 y.2 x)] : List (List Thread))) (
  Rfs ((capsL (capsOf (gN dT0 (Lst.threads (gN dL0 y.2 x)) x1)) ++ capsL (capsOf (gN dT0 (Lst.threads (gN dL0 y.2 x)) x1)) : List Int)) (
  ∃ z1 : Nat,
  Rfs (([y.2] : List (List Lst))) (
  Rfs (([((x : Nat) : Int)] : List Int)) (
  (@Eq (List UInt8) (capsF (numF (lstP (lstsP y.1 y.2 z) (lAt y.2 z) x1) (Thread.pc (gN dT0 (Lst.threads (gN dL0 y.2 x)) x1))) (capsOf (gN dT0 (Lst.threads (gN dL0 y.2 x)) x1))) (lstP (lstsP y.1 y.2 z) (lAt y.2 z) z1)) ∧
  (@Eq Int (iadd IntKind.i64 ((x1 : Nat) : Int) (1 : Int)) ((z1 : Nat) : Int)) ∧
  (Iv (((z1 : Nat) ≤ (List.length (Lst.threads (lAt y.2 z)))) ∧ ((List.length (Lst.threads (lAt y.2 z)) : Nat) - z1 : Nat) < ((List.length (Lst.threads (lAt y.2 z)) : Nat) - x1)))))))))))))) ∧
  (
  ((ilt ((x1 : Nat) : Int) (llen (Lst.threads (gN dL0 y.2 x)))) = false) →
  ∃ z1 : Nat,
  Rfs (([y.2] : List (List Lst))) (
  (@Eq (List UInt8) (lstP (lstsP y.1 y.2 z) (lAt y.2 z) x1) (lstsP y.1 y.2 z1)) ∧
  (@Eq Int (iadd IntKind.i64 ((x : Nat) : Int) (1 : Int)) ((z1 : Nat) : Int)) ∧
  (Iv (((z1 : Nat) ≤ (List.length y.2)) ∧ ((List.length y.2 : Nat) - z1 : Nat) < ((List.length y.2 : Nat) - x))))))))))))))) ∧
  (
  ((ilt ((x : Nat) : Int) (llen y.2)) = false) →
  (@Eq (List UInt8) (lstsP y.1 y.2 x) (lstsF y.1 y.2)) ∧
  True))))
theorem rplV_eq : ∀ y, rplVC y = rplV y := fun y => by kernel_rfl
end Go.Proofs.YtacolbfofamocaaGreat.sx
/- The document's places and lists as bytes: the contracts hold. -/
namespace Go.Proofs.YtacolbfofamocaaGreat.sx
open Go Go.RowKit
set_option maxRecDepth 100000
theorem lstsW_ge (l : List Lst) : l.length ≤ lstsW l := by
  unfold lstsW
  induction l with
  | nil => simp
  | cons t l ih =>
    simp only [List.length_cons, List.map_cons, List.sum_cons]
    have : 1 ≤ lstW t := by unfold lstW; omega
    omega
theorem capsP_len (b : By) (c : Caps) (i : Nat) : (capsP b c i).length ≤ b.length + 9 * i := by
  unfold capsP
  have key : ∀ (m : List Int) (c : By), (m.foldl (fun b x => numF b (capN x)) c).length ≤ c.length + 9 * m.length := by
    intro m
    induction m with
    | nil => intro c; simp
    | cons t m ih =>
      intro c
      have h1 := ih (numF c (capN t))
      have h2 := numF_len c (capN t)
      simp only [List.foldl_cons, List.length_cons]
      omega
  have h1 := key ((capsL c).take i) b
  have h2 : ((capsL c).take i).length ≤ i := by simp; omega
  omega
theorem placA {c : Int} (h : ilt c (Neg.neg (1 : Int)) = true) : Neg.neg (1 : Int) = imax c (Neg.neg (1 : Int)) := by rw [ilt_t] at h; unfold imax; split <;> omega
theorem placB {c : Int} (h : ilt c (Neg.neg (1 : Int)) = false) : c = imax c (Neg.neg (1 : Int)) := by rw [ilt_f] at h; unfold imax; split <;> omega
theorem placE {c : Int} (h : ieq (imax c (Neg.neg (1 : Int))) (9223372036854775807 : Int) = true) : isub IntKind.i64 (imax c (Neg.neg (1 : Int))) (1 : Int) = imin (imax c (Neg.neg (1 : Int))) (9223372036854775806 : Int) := by
  rw [ieq_t] at h
  rw [h, isub64 (by omega) (by omega)]
  unfold imin; split <;> omega
theorem placF {c : Int} (h0 : inR IntKind.i64 c = true) (h : ieq (imax c (Neg.neg (1 : Int))) (9223372036854775807 : Int) = false) : imax c (Neg.neg (1 : Int)) = imin (imax c (Neg.neg (1 : Int))) (9223372036854775806 : Int) := by
  rw [ieq_f] at h
  rw [inR64] at h0
  unfold imin
  split
  · exfalso
    unfold imax at *
    split at * <;> omega
  · rfl
theorem placH (y : By × Caps) (hy : placC.pre y) : placVC y := by
  have h1 : y.1.length ≤ 1073741724 := hy
  intro ⟨i0, i1, i2, i3, i4, i5, i6, i7, i8, i9, _⟩
  have hl := capsP_len y.1 y.2
  simp only [Rfs_eq, capA, and_true]
  repeat' first
    | exact ⟨trivial⟩
    | exact ⟨Nat.le_trans (hl _) (by omega)⟩
    | exact rfl
    | (intro _)
    | (refine Exists.intro () ?_)
    | (refine And.intro ?_ ?_)
    | exact placA (by assumption)
    | exact placB (by assumption)
    | exact placE (by assumption)
    | exact placF (by assumption) (by assumption)
theorem placOk : Ok placC := okOf (tab := [rnumC]) (fn := Tryz.f57) (orc := placO) (by simp; exact rnumOk) (by kernel_rfl) (by kernel_rfl) (fun _ => by exact Nat.le_of_ble_eq_true (by kernel_rfl)) fun y hy => Eq.mp (placV_eq y) (placH y hy)
theorem lstP_len (b : By) (t : Lst) (k : Nat) (hk : k ≤ t.threads.length) : (lstP b t k).length ≤ b.length + 108 + 99 * k := by
  have h1 := flagF_len b t.done
  have h2 := capsF_len (b := flagF b t.done) (bestOf t) h1
  have h3 := lthrP_len (capsF (flagF b t.done) (bestOf t)) t.threads k hk
  unfold lstP
  omega
theorem rplH (y : By × List Lst) (hy : rplC.pre y) : rplVC y := by
  have h1 : y.1.length + lstsW y.2 ≤ 1073741424 := hy
  have hn := lstsW_ge y.2
  unfold rplVC
  simp only [Rfs_eq, gN_eq, and_true]
  refine ⟨⟨by omega⟩, ⟨0, rfl, rfl, ⟨Nat.zero_le _⟩⟩, fun x hx => ⟨fun h2 => ?_, fun h2 => ?_⟩⟩
  · have hb := h2
    rw [ilt_t, llen_eq] at hb
    have hx2 : x < y.2.length := by omega
    have hz : ile (0 : Int) (x : Int) = true := ile_t.2 (by omega)
    have h3 := lstsP_len y.1 y.2 x
    have h4 := lstsW_take y.2 hx2
    have e : lAt y.2 x = y.2[x] := gt_get hx2
    rw [← e] at h4
    have e2 : gt dL0 y.2 x = lAt y.2 x := rfl
    simp only [e2]
    have h5 := flagF_len (lstsP y.1 y.2 x) (lAt y.2 x).done
    have h6 := capsF_len (b := flagF (lstsP y.1 y.2 x) (lAt y.2 x).done) (bestOf (lAt y.2 x)) h5
    have h7 : lstW (lAt y.2 x) = 108 + 99 * (lAt y.2 x).threads.length := rfl
    refine ⟨hz, h2, ⟨by omega⟩, hz, h2, ⟨by omega⟩, hz, h2, ⟨by omega⟩, x, ⟨0, rfl, rfl, ⟨Nat.zero_le _⟩⟩, fun k hk => ⟨hz, h2, fun h8 => ?_, fun h8 => ?_⟩⟩
    · have hk2 := h8
      rw [ilt_t, llen_eq] at hk2
      have hk3 : k < (lAt y.2 x).threads.length := by omega
      have hz2 : ile (0 : Int) (k : Int) = true := ile_t.2 (by omega)
      have h9 := lstP_len (lstsP y.1 y.2 x) (lAt y.2 x) k (Nat.le_of_lt hk3)
      have h10 := numF_len (lstP (lstsP y.1 y.2 x) (lAt y.2 x) k) (Thread.pc (gt dT0 (lAt y.2 x).threads k))
      refine ⟨hz, h2, hz2, h8, ⟨by omega⟩, hz, h2, hz2, h8, ⟨by omega⟩, k + 1, lthrP_step _ hk3, ?_, ⟨by omega, by omega⟩⟩
      rw [iadd64 (by omega) (by omega)]; rfl
    · rw [ilt_f, llen_eq] at h8
      have hk3 : k = (lAt y.2 x).threads.length := by have := hk.out; omega
      refine ⟨x + 1, ?_, ?_, ⟨by omega, by omega⟩⟩
      · rw [hk3]
        refine Eq.trans ?_ (lstsP_step dL0 hx2)
        exact lthrP_all _ _
      · rw [iadd64 (by omega) (by omega)]; rfl
  · rw [ilt_f, llen_eq] at h2
    have : x = y.2.length := by have := hx.out; omega
    rw [this]
    exact lstsP_all _ _
theorem rplOk : Ok rplC := okOf (tab := [rnumC, rflagC, placC]) (fn := Tryz.f29) (orc := rplO) (by simp; exact ⟨rnumOk, rflagOk, placOk⟩) (by kernel_rfl) (by kernel_rfl) (fun _ => by exact Nat.le_of_ble_eq_true (by kernel_rfl)) fun y hy => Eq.mp (rplV_eq y) (rplH y hy)
end Go.Proofs.YtacolbfofamocaaGreat.sx
/- Contracts of the document's scans and streams as bytes. -/
namespace Go.Proofs.YtacolbfofamocaaGreat.sx
open Go Go.RowKit
noncomputable section
def rscnC : Con D := { scnC with f := 30, res := fun y => .list 0 (scnF y.1 y.2), heap' := fun _ => [], nx1 := 0 }
def rscnO (_ : rscnC.Y) : Orc D := noO ()
def rscnV (y : rscnC.Y) : Prop := vcOf [rtextC, rnumC, rplC] Tryz.f30 rscnC rscnO y
def rstrmC : Con D := { strmC with f := 9, res := fun y => .list 0 (strmF y.1 y.2), heap' := fun _ => [], nx1 := 0 }
def rstrmO (_ : rstrmC.Y) : Orc D := noO ()
def rstrmV (y : rstrmC.Y) : Prop := vcOf [rnumC, rflagC, rplC, rscnC] Tryz.f9 rstrmC rstrmO y
end
end Go.Proofs.YtacolbfofamocaaGreat.sx
/- Conditions, as a tool printed them; that they are the functions' own the kernel computes. -/
namespace Go.Proofs.YtacolbfofamocaaGreat.sx
open Go Go.RowKit
def rscnVC (y : Prod (List UInt8) Scn) : Prop :=
 (Iv (((List.length y.1 : Nat) ≤ 536870912) ∧ (List.length (Scn.held y.2) : Nat) ≤ 536870912)) ∧
 Rfs (([y.1, Scn.held y.2] : List (List UInt8))) (
  (Iv ((List.length (textF y.1 (Scn.held y.2)) : Nat) ≤ 1073741824)) ∧
  Rfs (([textF y.1 (Scn.held y.2)] : List (List UInt8))) (
  Rfs (([Scn.place y.2] : List Int)) (
  (Iv (((List.length (numF (textF y.1 (Scn.held y.2)) (Scn.place y.2)) : Nat) + (lstsW (Scn.lists y.2)) : Nat) ≤ 1073741424)) ∧
  Rfs (([numF (textF y.1 (Scn.held y.2)) (Scn.place y.2)] : List (List UInt8))) (
  Rfs (([Scn.lists y.2] : List (List Lst))) (
  Rfs (([Scn.held y.2, Scn.held y.2] : List (List UInt8))) (
  Rfs (([Scn.place y.2, Scn.place y.2] : List Int)) (
  Rfs (([Scn.lists y.2, Scn.lists y.2, Scn.lists y.2] : List (List Lst))) (
  (@Eq (List UInt8) (lstsF (numF (textF y.1 (Scn.held y.2)) (Scn.place y.2)) (Scn.lists y.2)) (scnF y.1 y.2)) ∧
  True))))))))
theorem rscnV_eq : ∀ y, rscnVC y = rscnV y := fun y => by kernel_rfl
def rstrmVC (y : Prod (List UInt8) Strm) : Prop :=
 (Iv ((List.length y.1 : Nat) ≤ 1073741824)) ∧
 Rfs (([y.1] : List (List UInt8))) (
  Rfs (([Strm.at_ y.2] : List Int)) (
  (Iv ((List.length (numF y.1 (Strm.at_ y.2)) : Nat) ≤ 1073741824)) ∧
  Rfs (([numF y.1 (Strm.at_ y.2)] : List (List UInt8))) (
  Rfs (([Strm.line y.2] : List Int)) (
  (Iv ((List.length (numF (numF y.1 (Strm.at_ y.2)) (Strm.line y.2)) : Nat) ≤ 1073741824)) ∧
  Rfs (([numF (numF y.1 (Strm.at_ y.2)) (Strm.line y.2)] : List (List UInt8))) (
  Rfs (([Strm.long y.2] : List Bool)) (
  Rfs (([Strm.at_ y.2, Strm.line y.2, Strm.line y.2] : List Int)) (
  Rfs (([Strm.long y.2, Strm.long y.2, Strm.long y.2] : List Bool)) (
  (Iv ((List.length (flagF (numF (numF y.1 (Strm.at_ y.2)) (Strm.line y.2)) (Strm.long y.2)) : Nat) ≤ 1073741824)) ∧
  Rfs (([flagF (numF (numF y.1 (Strm.at_ y.2)) (Strm.line y.2)) (Strm.long y.2)] : List (List UInt8))) (
  Rfs (([Strm.opened y.2] : List Bool)) (
  (Iv ((List.length (flagF (flagF (numF (numF y.1 (Strm.at_ y.2)) (Strm.line y.2)) (Strm.long y.2)) (Strm.opened y.2)) : Nat) ≤ 1073741824)) ∧
  Rfs (([flagF (flagF (numF (numF y.1 (Strm.at_ y.2)) (Strm.line y.2)) (Strm.long y.2)) (Strm.opened y.2)] : List (List UInt8))) (
  Rfs (([Strm.event y.2] : List Int)) (
  (Iv ((List.length (numF (flagF (flagF (numF (numF y.1 (Strm.at_ y.2)) (Strm.line y.2)) (Strm.long y.2)) (Strm.opened y.2)) (Strm.event y.2)) : Nat) ≤ 1073741824)) ∧
  Rfs (([numF (flagF (flagF (numF (numF y.1 (Strm.at_ y.2)) (Strm.line y.2)) (Strm.long y.2)) (Strm.opened y.2)) (Strm.event y.2)] : List (List UInt8))) (
  Rfs (([Strm.size y.2] : List Int)) (
  Rfs (([Strm.opened y.2] : List Bool)) (
  Rfs (([Strm.event y.2, Strm.event y.2, Strm.size y.2, Strm.size y.2, Strm.size y.2] : List Int)) (
  (Iv (((List.length (numF (numF (flagF (flagF (numF (numF y.1 (Strm.at_ y.2)) (Strm.line y.2)) (Strm.long y.2)) (Strm.opened y.2)) (Strm.event y.2)) (Strm.size y.2)) : Nat) + (lstsW (Strm.ends y.2)) : Nat) ≤ 1073741424)) ∧
  Rfs (([numF (numF (flagF (flagF (numF (numF y.1 (Strm.at_ y.2)) (Strm.line y.2)) (Strm.long y.2)) (Strm.opened y.2)) (Strm.event y.2)) (Strm.size y.2)] : List (List UInt8))) (
  Rfs (([Strm.ends y.2] : List (List Lst))) (
  (Iv (((List.length (lstsF (numF (numF (flagF (flagF (numF (numF y.1 (Strm.at_ y.2)) (Strm.line y.2)) (Strm.long y.2)) (Strm.opened y.2)) (Strm.event y.2)) (Strm.size y.2)) (Strm.ends y.2)) : Nat) + (scnW (Scn.mk (Scn.held (Strm.cur y.2)) (Scn.place (Strm.cur y.2)) (Scn.lists (Strm.cur y.2)))) : Nat) ≤ 536870912)) ∧
  Rfs (([lstsF (numF (numF (flagF (flagF (numF (numF y.1 (Strm.at_ y.2)) (Strm.line y.2)) (Strm.long y.2)) (Strm.opened y.2)) (Strm.event y.2)) (Strm.size y.2)) (Strm.ends y.2), Scn.held (Strm.cur y.2)] : List (List UInt8))) (
  Rfs (([Scn.place (Strm.cur y.2)] : List Int)) (
  Rfs (([Scn.lists (Strm.cur y.2)] : List (List Lst))) (
  (Iv (((List.length (scnF (lstsF (numF (numF (flagF (flagF (numF (numF y.1 (Strm.at_ y.2)) (Strm.line y.2)) (Strm.long y.2)) (Strm.opened y.2)) (Strm.event y.2)) (Strm.size y.2)) (Strm.ends y.2)) (Scn.mk (Scn.held (Strm.cur y.2)) (Scn.place (Strm.cur y.2)) (Scn.lists (Strm.cur y.2)))) : Nat) + (scnW (Scn.mk (Scn.held (Strm.alt y.2)) (Scn.place (Strm.alt y.2)) (Scn.lists (Strm.alt y.2)))) : Nat) ≤ 536870912)) ∧
  Rfs (([scnF (lstsF (numF (numF (flagF (flagF (numF (numF y.1 (Strm.at_ y.2)) (Strm.line y.2)) (Strm.long y.2)) (Strm.opened y.2)) (Strm.event y.2)) (Strm.size y.2)) (Strm.ends y.2)) (Scn.mk (Scn.held (Strm.cur y.2)) (Scn.place (Strm.cur y.2)) (Scn.lists (Strm.cur y.2))), Scn.held (Strm.alt y.2)] : List (List UInt8))) (
  Rfs (([Scn.place (Strm.alt y.2)] : List Int)) (
  Rfs (([Scn.lists (Strm.alt y.2)] : List (List Lst))) (
  (Iv (((List.length (scnF (scnF (lstsF (numF (numF (flagF (flagF (numF (numF y.1 (Strm.at_ y.2)) (Strm.line y.2)) (Strm.long y.2)) (Strm.opened y.2)) (Strm.event y.2)) (Strm.size y.2)) (Strm.ends y.2)) (Scn.mk (Scn.held (Strm.cur y.2)) (Scn.place (Strm.cur y.2)) (Scn.lists (Strm.cur y.2)))) (Scn.mk (Scn.held (Strm.alt y.2)) (Scn.place (Strm.alt y.2)) (Scn.lists (Strm.alt y.2)))) : Nat) + (scnW (Scn.mk (Scn.held (Strm.con y.2)) (Scn.place (Strm.con y.2)) (Scn.lists (Strm.con y.2)))) : Nat) ≤ 536870912)) ∧
  Rfs (([scnF (scnF (lstsF (numF (numF (flagF (flagF (numF (numF y.1 (Strm.at_ y.2)) (Strm.line y.2)) (Strm.long y.2)) (Strm.opened y.2)) (Strm.event y.2)) (Strm.size y.2)) (Strm.ends y.2)) (Scn.mk (Scn.held (Strm.cur y.2)) (Scn.place (Strm.cur y.2)) (Scn.lists (Strm.cur y.2)))) (Scn.mk (Scn.held (Strm.alt y.2)) (Scn.place (Strm.alt y.2)) (Scn.lists (Strm.alt y.2))), Scn.held (Strm.con y.2)] : List (List UInt8))) (
  Rfs (([Scn.place (Strm.con y.2)] : List Int)) (
  Rfs (([Scn.lists (Strm.con y.2)] : List (List Lst))) (
  Rfs (([Scn.held (Strm.cur y.2)] : List (List UInt8))) (
  Rfs (([Scn.place (Strm.cur y.2)] : List Int)) (
  Rfs (([Scn.lists (Strm.cur y.2)] : List (List Lst))) (
  Rfs (([Scn.held (Strm.alt y.2)] : List (List UInt8))) (
  Rfs (([Scn.place (Strm.alt y.2)] : List Int)) (
  Rfs (([Scn.lists (Strm.alt y.2)] : List (List Lst))) (
  Rfs (([Scn.held (Strm.alt y.2)] : List (List UInt8))) (
  Rfs (([Scn.place (Strm.alt y.2)] : List Int)) (
  Rfs (([Scn.lists (Strm.alt y.2)] : List (List Lst))) (
  Rfs (([Scn.held (Strm.con y.2)] : List (List UInt8))) (
  Rfs (([Scn.place (Strm.con y.2)] : List Int)) (
  Rfs (([Scn.lists (Strm.con y.2)] : List (List Lst))) (
  Rfs (([Scn.held (Strm.con y.2)] : List (List UInt8))) (
  Rfs (([Scn.place (Strm.con y.2)] : List Int)) (
  Rfs (([Scn.lists (Strm.con y.2)] : List (List Lst))) (
  Rfs (([Scn.held (Strm.con y.2)] : List (List UInt8))) (
  Rfs (([Scn.place (Strm.con y.2)] : List Int)) (
  Rfs (([Scn.lists (Strm.con y.2)] : List (List Lst))) (
  (@Eq (List UInt8) (scnF (scnF (scnF (lstsF (numF (numF (flagF (flagF (numF (numF y.1 (Strm.at_ y.2)) (Strm.line y.2)) (Strm.long y.2)) (Strm.opened y.2)) (Strm.event y.2)) (Strm.size y.2)) (Strm.ends y.2)) (Scn.mk (Scn.held (Strm.cur y.2)) (Scn.place (Strm.cur y.2)) (Scn.lists (Strm.cur y.2)))) (Scn.mk (Scn.held (Strm.alt y.2)) (Scn.place (Strm.alt y.2)) (Scn.lists (Strm.alt y.2)))) (Scn.mk (Scn.held (Strm.con y.2)) (Scn.place (Strm.con y.2)) (Scn.lists (Strm.con y.2)))) (strmF y.1 y.2)) ∧
  True)))))))))))))))))))))))))))))))))))))))))))))
theorem rstrmV_eq : ∀ y, rstrmVC y = rstrmV y := fun y => by kernel_rfl
end Go.Proofs.YtacolbfofamocaaGreat.sx
/- The document's scans and streams as bytes: the contracts hold. -/
namespace Go.Proofs.YtacolbfofamocaaGreat.sx
open Go Go.RowKit
set_option maxRecDepth 100000
theorem rscnH (y : By × Scn) (hy : rscnC.pre y) : rscnVC y := by
  have h0 : y.1.length + scnW y.2 ≤ 536870912 := hy
  unfold scnW at h0
  have h1 := textF_len y.1 y.2.held
  have h2 := numF_len (textF y.1 y.2.held) y.2.place
  unfold rscnVC
  simp only [Rfs_eq, and_true]
  exact ⟨⟨by omega, by omega⟩, ⟨by omega⟩, ⟨by omega⟩, rfl⟩
theorem rscnOk : Ok rscnC := okOf (tab := [rtextC, rnumC, rplC]) (fn := Tryz.f30) (orc := rscnO) (by simp; exact ⟨rtextOk, rnumOk, rplOk⟩) (by kernel_rfl) (by kernel_rfl) (fun _ => by exact Nat.le_of_ble_eq_true (by kernel_rfl)) fun y hy => Eq.mp (rscnV_eq y) (rscnH y hy)
theorem rstrmH (y : By × Strm) (hy : rstrmC.pre y) : rstrmVC y := by
  have h0 : y.1.length + 63 + lstsW y.2.ends + scnW y.2.cur + scnW y.2.alt + scnW y.2.con ≤ 536870912 := hy
  have h1 := numF_len y.1 y.2.at_
  have h2 := numF_len (numF y.1 y.2.at_) y.2.line
  generalize hb2 : numF (numF y.1 y.2.at_) y.2.line = b2 at h2
  have h3 := flagF_len b2 y.2.long
  have h4 := flagF_len (flagF b2 y.2.long) y.2.opened
  generalize hb4 : flagF (flagF b2 y.2.long) y.2.opened = b4 at h4
  have h5 := numF_len b4 y.2.event
  have h6 := numF_len (numF b4 y.2.event) y.2.size
  generalize hb6 : numF (numF b4 y.2.event) y.2.size = b6 at h6
  have h7 := lstsF_len b6 y.2.ends
  have h8 := scnF_len (lstsF b6 y.2.ends) y.2.cur
  have h9 := scnF_len (scnF (lstsF b6 y.2.ends) y.2.cur) y.2.alt
  unfold rstrmVC
  simp only [Rfs_eq, and_true, hb2, hb4, hb6]
  refine ⟨⟨by omega⟩, ⟨by omega⟩, ⟨by omega⟩, ⟨by omega⟩, ⟨by omega⟩, ⟨by omega⟩, ⟨by omega⟩, ⟨?_⟩, ⟨?_⟩, ⟨?_⟩, ?_⟩
  · show (lstsF b6 y.2.ends).length + scnW y.2.cur ≤ 536870912; omega
  · show (scnF (lstsF b6 y.2.ends) y.2.cur).length + scnW y.2.alt ≤ 536870912; omega
  · show (scnF (scnF (lstsF b6 y.2.ends) y.2.cur) y.2.alt).length + scnW y.2.con ≤ 536870912; omega
  · unfold strmF; rw [hb2, hb4, hb6]
theorem rstrmOk : Ok rstrmC := okOf (tab := [rnumC, rflagC, rplC, rscnC]) (fn := Tryz.f9) (orc := rstrmO) (by simp; exact ⟨rnumOk, rflagOk, rplOk, rscnOk⟩) (by kernel_rfl) (by kernel_rfl) (fun _ => by exact Nat.le_of_ble_eq_true (by kernel_rfl)) fun y hy => Eq.mp (rstrmV_eq y) (rstrmH y hy)
end Go.Proofs.YtacolbfofamocaaGreat.sx
/- Contracts of readers: numbers. -/
namespace Go.Proofs.YtacolbfofamocaaGreat.sx
open Go Go.RowKit
noncomputable section
/-- where a reader stands, and its error -/
structure RS where
  at_ : Int
  err : Int
/-- the bytes behind a reader's place, the number's count of bytes, its bytes -/
def restF (l : By) (s : RS) : By := l.drop s.at_.toNat
def kF (l : By) (s : RS) : Nat := (l.getD s.at_.toNat 0).toNat
def vF (l : By) (s : RS) : By := ((restF l s).drop 1).take (kF l s)
def beF (l : By) : Nat := l.foldl (fun u x => u * 256 + x.toNat) 0
def badN (l : By) (s : RS) : Prop := (0 < kF l s ∧ (l.getD (s.at_.toNat + 1) 0).toNat = 0) ∨ 9223372036854775808 ≤ beF (vF l s)
def goodN (l : By) (s : RS) : Prop := ¬ badN l s
instance (l : By) (s : RS) : Decidable (badN l s) := by unfold badN; infer_instance
def numB (l : By) (s : RS) : Int × RS :=
  if s.err ≠ 0 then (0, s)
  else if (l.length : Int) ≤ s.at_ then (0, ⟨s.at_, 3⟩)
  else if 8 < kF l s then (0, ⟨s.at_, 4⟩)
  else if (l.length : Int) < s.at_ + 1 + kF l s then (0, ⟨s.at_, 3⟩)
  else if badN l s then (0, ⟨s.at_, 4⟩)
  else (beF (vF l s), ⟨s.at_ + 1 + kF l s, 0⟩)
def numR (l : By) (s : RS) : Int := (numB l s).1
def numS (l : By) (s : RS) : RS := (numB l s).2
/-- a reader's pieces -/
def rdO (l : By) (s : RS) : List (Nat × AO D.E) := [(0, .cells [.list 0 l, .int .i64 s.at_, .int .i64 s.err] 78 false)]
def rrdO (l : By) (s : RS) : List (Nat × AO D.E) := [(0, .cells [.list 0 l, .int .i64 s.at_, .int .i64 s.err] 44 false)]
def asR (v : AV D.E) (s : St D.E) : C (By × RS) := match v with
  | .ptr b _ => bnd (ofO (s.h.get b)) fun o => match o with
    | .cells cs _ _ => match cs with
      | [l, a, e] => bnd (rowsOf D s 0 l) fun l => bnd2 (asI a) fun _ a => bnd2 (asI e) fun _ e => .ret ((l : By), ⟨a, e⟩)
      | _ => .fail
    | _ => .fail
  | _ => .fail
/-- a reader stands in its bytes -/
def RdOk (y : By × RS) : Prop := 0 ≤ y.2.at_ ∧ y.2.at_ ≤ y.1.length ∧ y.1.length ≤ 1073741824
def readC : Con D where
  f := 11
  Y := By
  inp := fun args s => match args with
    | [a] => bnd (rowsOf D s 0 a) fun l => .ret (l : By)
    | _ => .fail
  pre := fun y => y.length ≤ 1073741824
  args := fun y => [.list 0 y]
  heap := fun _ => []
  res := fun _ => .ptr 0 0
  heap' := fun y => rdO y ⟨0, 0⟩
  nx0 := 0
  nx1 := 1
def readO (_ : readC.Y) : Orc D := noO ()
def readV (y : readC.Y) : Prop := vcOf [] Tryz.f11 readC readO y
def rreadC : Con D := { readC with f := 12, heap' := fun y => rrdO y ⟨0, 0⟩ }
def rreadO (_ : rreadC.Y) : Orc D := noO ()
def rreadV (y : rreadC.Y) : Prop := vcOf [] Tryz.f12 rreadC rreadO y
def wrongC : Con D where
  f := 59
  Y := (By × RS) × RS
  inp := fun args s => match args with
    | [p, a, e] => bnd (asR p s) fun y => bnd2 (asI a) fun _ a => bnd2 (asI e) fun _ e => .ret (y, ⟨a, e⟩)
    | _ => .fail
  pre := fun _ => True
  args := fun y => [.ptr 0 0, .int .i64 y.2.at_, .int .i64 y.2.err]
  heap := fun y => rdO y.1.1 y.1.2
  res := fun _ => .num .i64 0
  heap' := fun y => rdO y.1.1 y.2
  nx0 := 1
  nx1 := 1
def wrongO (_ : wrongC.Y) : Orc D := noO ()
def wrongV (y : wrongC.Y) : Prop := vcOf [] Tryz.f59 wrongC wrongO y
def numRC : Con D where
  f := 31
  Y := By × RS
  inp := fun args s => match args with
    | [p] => asR p s
    | _ => .fail
  pre := RdOk
  args := fun _ => [.ptr 0 0]
  heap := fun y => rdO y.1 y.2
  res := fun y => .int .i64 (numR y.1 y.2)
  heap' := fun y => rdO y.1 (numS y.1 y.2)
  nx0 := 1
  nx1 := 1
def numRO (y : numRC.Y) : Orc D := ⟨[], [], [(4090, { X := Nat, keep := [0, 3, 4, 57, 58], sl := fun i => [(5, .int .u64 (beF ((vF y.1 y.2).take i))), (59, .int .i64 i)], kp := [0], pc := fun _ => [], nx := 1, inv := fun i => i ≤ kF y.1 y.2, me := fun i => kF y.1 y.2 - i })], [], 1, []⟩
def numRV (y : numRC.Y) : Prop := vcOf [wrongC] Tryz.f31 numRC numRO y
def rnumRC : Con D := { numRC with f := 35, heap := fun y => rrdO y.1 y.2, heap' := fun y => rrdO y.1 (numS y.1 y.2) }
def rnumRO (y : rnumRC.Y) : Orc D := ⟨[], [], [(4090, { X := Nat, keep := [0, 3], sl := fun i => [(4, .int .i64 (beF ((vF y.1 y.2).take i))), (5, .int .i64 i)], kp := [0], pc := fun _ => [], nx := 1, inv := fun i => i ≤ kF y.1 y.2, me := fun i => kF y.1 y.2 - i })],
  [(127, { X := Unit, keep := [0, 3], sl := fun _ => [], kp := [0], pc := fun _ => [], nx := 1, inv := fun _ => goodN y.1 y.2, me := fun _ => 0 })], 1, []⟩
def rnumRV (y : rnumRC.Y) : Prop := vcOf [] Tryz.f35 rnumRC rnumRO y
end
end Go.Proofs.YtacolbfofamocaaGreat.sx
/- Conditions, as a tool printed them; that they are the functions' own the kernel computes. -/
namespace Go.Proofs.YtacolbfofamocaaGreat.sx
open Go Go.RowKit
def readVC (y : List UInt8) : Prop :=
 ((fits (llen y) 1) = true) ∧
 Rfs (([y] : List (List UInt8))) (
  Rfs (([(0 : Int), (0 : Int)] : List Int)) (
  True))
theorem readV_eq : ∀ y, readVC y = readV y := fun y => by kernel_rfl
def rreadVC (y : List UInt8) : Prop :=
 ((fits (llen (lcat ([] : List UInt8) y)) 1) = true) ∧
 (@Eq (List UInt8) (lcat ([] : List UInt8) y) y) ∧
 Rfs (([(0 : Int), (0 : Int)] : List Int)) (
  True)
theorem rreadV_eq : ∀ y, rreadVC y = rreadV y := fun y => by kernel_rfl
def wrongVC (y : Prod (Prod (List UInt8) RS) RS) : Prop :=
 Rfs (([y.1.1] : List (List UInt8))) (
  Rfs (([RS.at_ y.2, RS.err y.2] : List Int)) (
  True))
theorem wrongV_eq : ∀ y, wrongVC y = wrongV y := fun y => by kernel_rfl
def numRVC (y : Prod (List UInt8) RS) : Prop :=
 (
  ((Bool.not (ieq (RS.err y.2) (0 : Int))) = true) →
  (@Eq Int (0 : Int) (numR y.1 y.2)) ∧
  Rfs (([y.1] : List (List UInt8))) (
  (@Eq Int (RS.at_ y.2) (RS.at_ (numS y.1 y.2))) ∧
  (@Eq Int (RS.err y.2) (RS.err (numS y.1 y.2))) ∧
  True)) ∧
 (
  ((Bool.not (ieq (RS.err y.2) (0 : Int))) = false) →
  ((ile (0 : Int) (RS.at_ y.2)) = true) ∧
  ((ile (RS.at_ y.2) (llen y.1)) = true) ∧
  Rfs (([y.1] : List (List UInt8))) (
  Rfs (([RS.at_ y.2] : List Int)) (
  (
  ((ieq (llen (ldrop y.1 (RS.at_ y.2))) (0 : Int)) = true) →
  (Iv True) ∧
  Rfs (([RS.at_ y.2, (3 : Int)] : List Int)) (
  Rfs (([y.1] : List (List UInt8))) (
  Rfs (([RS.at_ y.2, RS.err y.2] : List Int)) (
  (@Eq Int (0 : Int) (numR y.1 y.2)) ∧
  Rfs (([y.1] : List (List UInt8))) (
  (@Eq Int (RS.at_ y.2) (RS.at_ (numS y.1 y.2))) ∧
  (@Eq Int (3 : Int) (RS.err (numS y.1 y.2))) ∧
  True))))) ∧
  (
  ((ieq (llen (ldrop y.1 (RS.at_ y.2))) (0 : Int)) = false) →
  ((ile (0 : Int) (0 : Int)) = true) ∧
  ((ilt (0 : Int) (llen (ldrop y.1 (RS.at_ y.2)))) = true) ∧
  (
  ((ilt (8 : Int) (icv IntKind.i64 ((UInt8.toNat (gt (0 : UInt8) (ldrop y.1 (RS.at_ y.2)) 0) : Nat) : Int))) = true) →
  (Iv True) ∧
  Rfs (([RS.at_ y.2, (4 : Int)] : List Int)) (
  Rfs (([y.1] : List (List UInt8))) (
  Rfs (([RS.at_ y.2, RS.err y.2] : List Int)) (
  (@Eq Int (0 : Int) (numR y.1 y.2)) ∧
  Rfs (([y.1] : List (List UInt8))) (
  (@Eq Int (RS.at_ y.2) (RS.at_ (numS y.1 y.2))) ∧
  (@Eq Int (4 : Int) (RS.err (numS y.1 y.2))) ∧
  True))))) ∧
  (
  ((ilt (8 : Int) (icv IntKind.i64 ((UInt8.toNat (gt (0 : UInt8) (ldrop y.1 (RS.at_ y.2)) 0) : Nat) : Int))) = false) →
  (
  ((ilt (llen (ldrop y.1 (RS.at_ y.2))) (iadd IntKind.i64 (1 : Int) (icv IntKind.i64 ((UInt8.toNat (gt (0 : UInt8) (ldrop y.1 (RS.at_ y.2)) 0) : Nat) : Int)))) = true) →
  (Iv True) ∧
  Rfs (([RS.at_ y.2, (3 : Int)] : List Int)) (
  Rfs (([y.1] : List (List UInt8))) (
  Rfs (([RS.at_ y.2, RS.err y.2] : List Int)) (
  (@Eq Int (0 : Int) (numR y.1 y.2)) ∧
  Rfs (([y.1] : List (List UInt8))) (
  (@Eq Int (RS.at_ y.2) (RS.at_ (numS y.1 y.2))) ∧
  (@Eq Int (3 : Int) (RS.err (numS y.1 y.2))) ∧
  True))))) ∧
  (
  ((ilt (llen (ldrop y.1 (RS.at_ y.2))) (iadd IntKind.i64 (1 : Int) (icv IntKind.i64 ((UInt8.toNat (gt (0 : UInt8) (ldrop y.1 (RS.at_ y.2)) 0) : Nat) : Int)))) = false) →
  ((ile (0 : Int) (iadd IntKind.i64 (1 : Int) (icv IntKind.i64 ((UInt8.toNat (gt (0 : UInt8) (ldrop y.1 (RS.at_ y.2)) 0) : Nat) : Int)))) = true) ∧
  ((ile (iadd IntKind.i64 (1 : Int) (icv IntKind.i64 ((UInt8.toNat (gt (0 : UInt8) (ldrop y.1 (RS.at_ y.2)) 0) : Nat) : Int))) (llen (ldrop y.1 (RS.at_ y.2)))) = true) ∧
  ((ile (0 : Int) (1 : Int)) = true) ∧
  ((ile (1 : Int) (llen (ltake (ldrop y.1 (RS.at_ y.2)) (iadd IntKind.i64 (1 : Int) (icv IntKind.i64 ((UInt8.toNat (gt (0 : UInt8) (ldrop y.1 (RS.at_ y.2)) 0) : Nat) : Int)))))) = true) ∧
  (
  ∃ z : Nat,
  Rfs (([ldrop y.1 (RS.at_ y.2)] : List (List UInt8))) (
  Rfs (([icv IntKind.i64 ((UInt8.toNat (gt (0 : UInt8) (ldrop y.1 (RS.at_ y.2)) 0) : Nat) : Int)] : List Int)) (
  Rfs (([ldrop (ltake (ldrop y.1 (RS.at_ y.2)) (iadd IntKind.i64 (1 : Int) (icv IntKind.i64 ((UInt8.toNat (gt (0 : UInt8) (ldrop y.1 (RS.at_ y.2)) 0) : Nat) : Int)))) (1 : Int)] : List (List UInt8))) (
  Rfs (([llen (ldrop (ltake (ldrop y.1 (RS.at_ y.2)) (iadd IntKind.i64 (1 : Int) (icv IntKind.i64 ((UInt8.toNat (gt (0 : UInt8) (ldrop y.1 (RS.at_ y.2)) 0) : Nat) : Int)))) (1 : Int))] : List Int)) (
  (@Eq Int (0 : Int) ((beF (List.take z (vF y.1 y.2)) : Nat) : Int)) ∧
  (@Eq Int (0 : Int) ((z : Nat) : Int)) ∧
  Rfs (([y.1] : List (List UInt8))) (
  Rfs (([RS.at_ y.2, RS.err y.2] : List Int)) (
  (Iv ((z : Nat) ≤ (kF y.1 y.2)))))))))) ∧
  (
  ∀ x : Nat,
  (Iv ((x : Nat) ≤ (kF y.1 y.2))) →
  (
  ((ilt ((x : Nat) : Int) (llen (ldrop (ltake (ldrop y.1 (RS.at_ y.2)) (iadd IntKind.i64 (1 : Int) (icv IntKind.i64 ((UInt8.toNat (gt (0 : UInt8) (ldrop y.1 (RS.at_ y.2)) 0) : Nat) : Int)))) (1 : Int)))) = true) →
  ((ile (0 : Int) ((x : Nat) : Int)) = true) ∧
  ((ilt ((x : Nat) : Int) (llen (ldrop (ltake (ldrop y.1 (RS.at_ y.2)) (iadd IntKind.i64 (1 : Int) (icv IntKind.i64 ((UInt8.toNat (gt (0 : UInt8) (ldrop y.1 (RS.at_ y.2)) 0) : Nat) : Int)))) (1 : Int)))) = true) ∧
  ((ile (0 : Int) (8 : Int)) = true) ∧
  ∃ z : Nat,
  Rfs (([ldrop y.1 (RS.at_ y.2)] : List (List UInt8))) (
  Rfs (([icv IntKind.i64 ((UInt8.toNat (gt (0 : UInt8) (ldrop y.1 (RS.at_ y.2)) 0) : Nat) : Int)] : List Int)) (
  Rfs (([ldrop (ltake (ldrop y.1 (RS.at_ y.2)) (iadd IntKind.i64 (1 : Int) (icv IntKind.i64 ((UInt8.toNat (gt (0 : UInt8) (ldrop y.1 (RS.at_ y.2)) 0) : Nat) : Int)))) (1 : Int)] : List (List UInt8))) (
  Rfs (([llen (ldrop (ltake (ldrop y.1 (RS.at_ y.2)) (iadd IntKind.i64 (1 : Int) (icv IntKind.i64 ((UInt8.toNat (gt (0 : UInt8) (ldrop y.1 (RS.at_ y.2)) 0) : Nat) : Int)))) (1 : Int))] : List Int)) (
  (@Eq Int (ior IntKind.u64 (ishl IntKind.u64 ((beF (List.take x (vF y.1 y.2)) : Nat) : Int) (8 : Int)) (icv IntKind.u64 ((UInt8.toNat (gt (0 : UInt8) (ldrop (ltake (ldrop y.1 (RS.at_ y.2)) (iadd IntKind.i64 (1 : Int) (icv IntKind.i64 ((UInt8.toNat (gt (0 : UInt8) (ldrop y.1 (RS.at_ y.2)) 0) : Nat) : Int)))) (1 : Int)) (Int.toNat ((x : Nat) : Int))) : Nat) : Int))) ((beF (List.take z (vF y.1 y.2)) : Nat) : Int)) ∧
  (@Eq Int (iadd IntKind.i64 ((x : Nat) : Int) (1 : Int)) ((z : Nat) : Int)) ∧
  Rfs (([y.1] : List (List UInt8))) (
  Rfs (([RS.at_ y.2, RS.err y.2] : List Int)) (
  (Iv (((z : Nat) ≤ (kF y.1 y.2)) ∧ ((kF y.1 y.2 : Nat) - z : Nat) < ((kF y.1 y.2 : Nat) - x)))))))))) ∧
  (
  ((ilt ((x : Nat) : Int) (llen (ldrop (ltake (ldrop y.1 (RS.at_ y.2)) (iadd IntKind.i64 (1 : Int) (icv IntKind.i64 ((UInt8.toNat (gt (0 : UInt8) (ldrop y.1 (RS.at_ y.2)) 0) : Nat) : Int)))) (1 : Int)))) = false) →
  (
  ((ilt (0 : Int) (icv IntKind.i64 ((UInt8.toNat (gt (0 : UInt8) (ldrop y.1 (RS.at_ y.2)) 0) : Nat) : Int))) = true) →
  ((ile (0 : Int) (1 : Int)) = true) ∧
  ((ilt (1 : Int) (llen (ldrop y.1 (RS.at_ y.2)))) = true) ∧
  (
  ((ieq ((UInt8.toNat (gt (0 : UInt8) (ldrop y.1 (RS.at_ y.2)) 1) : Nat) : Int) (0 : Int)) = true) →
  (Iv True) ∧
  Rfs (([RS.at_ y.2, (4 : Int)] : List Int)) (
  Rfs (([y.1] : List (List UInt8))) (
  Rfs (([RS.at_ y.2, RS.err y.2] : List Int)) (
  (@Eq Int (0 : Int) (numR y.1 y.2)) ∧
  Rfs (([y.1] : List (List UInt8))) (
  (@Eq Int (RS.at_ y.2) (RS.at_ (numS y.1 y.2))) ∧
  (@Eq Int (4 : Int) (RS.err (numS y.1 y.2))) ∧
  True))))) ∧
  (
  ((ieq ((UInt8.toNat (gt (0 : UInt8) (ldrop y.1 (RS.at_ y.2)) 1) : Nat) : Int) (0 : Int)) = false) →
  ((ile (0 : Int) (63 : Int)) = true) ∧
  ((ile (0 : Int) ((beF (List.take x (vF y.1 y.2)) : Nat) : Int)) = true) ∧
  (
  ((ieq (ishr IntKind.u64 ((beF (List.take x (vF y.1 y.2)) : Nat) : Int) (63 : Int)) (1 : Int)) = true) →
  (Iv True) ∧
  Rfs (([RS.at_ y.2, (4 : Int)] : List Int)) (
  Rfs (([y.1] : List (List UInt8))) (
  Rfs (([RS.at_ y.2, RS.err y.2] : List Int)) (
  (@Eq Int (0 : Int) (numR y.1 y.2)) ∧
  Rfs (([y.1] : List (List UInt8))) (
  (@Eq Int (RS.at_ y.2) (RS.at_ (numS y.1 y.2))) ∧
  (@Eq Int (4 : Int) (RS.err (numS y.1 y.2))) ∧
  True))))) ∧
  (
  ((ieq (ishr IntKind.u64 ((beF (List.take x (vF y.1 y.2)) : Nat) : Int) (63 : Int)) (1 : Int)) = false) →
  (@Eq Int (icv IntKind.i64 ((beF (List.take x (vF y.1 y.2)) : Nat) : Int)) (numR y.1 y.2)) ∧
  Rfs (([y.1] : List (List UInt8))) (
  (@Eq Int (iadd IntKind.i64 (RS.at_ y.2) (iadd IntKind.i64 (1 : Int) (icv IntKind.i64 ((UInt8.toNat (gt (0 : UInt8) (ldrop y.1 (RS.at_ y.2)) 0) : Nat) : Int)))) (RS.at_ (numS y.1 y.2))) ∧
  (@Eq Int (RS.err y.2) (RS.err (numS y.1 y.2))) ∧
  True)))) ∧
  (
  ((ilt (0 : Int) (icv IntKind.i64 ((UInt8.toNat (gt (0 : UInt8) (ldrop y.1 (RS.at_ y.2)) 0) : Nat) : Int))) = false) →
  ((ile (0 : Int) (63 : Int)) = true) ∧
  ((ile (0 : Int) ((beF (List.take x (vF y.1 y.2)) : Nat) : Int)) = true) ∧
  (
  ((ieq (ishr IntKind.u64 ((beF (List.take x (vF y.1 y.2)) : Nat) : Int) (63 : Int)) (1 : Int)) = true) →
  (Iv True) ∧
  Rfs (([RS.at_ y.2, (4 : Int)] : List Int)) (
  Rfs (([y.1] : List (List UInt8))) (
  Rfs (([RS.at_ y.2, RS.err y.2] : List Int)) (
  (@Eq Int (0 : Int) (numR y.1 y.2)) ∧
  Rfs (([y.1] : List (List UInt8))) (
  (@Eq Int (RS.at_ y.2) (RS.at_ (numS y.1 y.2))) ∧
  (@Eq Int (4 : Int) (RS.err (numS y.1 y.2))) ∧
  True))))) ∧
  (
  ((ieq (ishr IntKind.u64 ((beF (List.take x (vF y.1 y.2)) : Nat) : Int) (63 : Int)) (1 : Int)) = false) →
  (@Eq Int (icv IntKind.i64 ((beF (List.take x (vF y.1 y.2)) : Nat) : Int)) (numR y.1 y.2)) ∧
  Rfs (([y.1] : List (List UInt8))) (
  (@Eq Int (iadd IntKind.i64 (RS.at_ y.2) (iadd IntKind.i64 (1 : Int) (icv IntKind.i64 ((UInt8.toNat (gt (0 : UInt8) (ldrop y.1 (RS.at_ y.2)) 0) : Nat) : Int)))) (RS.at_ (numS y.1 y.2))) ∧
  (@Eq Int (RS.err y.2) (RS.err (numS y.1 y.2))) ∧
  True)))))))))))
theorem numRV_eq : ∀ y, numRVC y = numRV y := fun y => by kernel_rfl
def rnumRVC (y : Prod (List UInt8) RS) : Prop :=
 (
  ((Bool.not (ieq (RS.err y.2) (0 : Int))) = true) →
  (@Eq Int (0 : Int) (numR y.1 y.2)) ∧
  Rfs (([y.1] : List (List UInt8))) (
  (@Eq Int (RS.at_ y.2) (RS.at_ (numS y.1 y.2))) ∧
  (@Eq Int (RS.err y.2) (RS.err (numS y.1 y.2))) ∧
  True)) ∧
 (
  ((Bool.not (ieq (RS.err y.2) (0 : Int))) = false) →
  Rfs (([RS.at_ y.2] : List Int)) (
  Rfs (([y.1] : List (List UInt8))) (
  (
  ((ile (llen y.1) (RS.at_ y.2)) = true) →
  (@Eq Int (0 : Int) (numR y.1 y.2)) ∧
  Rfs (([y.1] : List (List UInt8))) (
  (@Eq Int (RS.at_ y.2) (RS.at_ (numS y.1 y.2))) ∧
  (@Eq Int (3 : Int) (RS.err (numS y.1 y.2))) ∧
  True)) ∧
  (
  ((ile (llen y.1) (RS.at_ y.2)) = false) →
  ((ile (0 : Int) (RS.at_ y.2)) = true) ∧
  ((ilt (RS.at_ y.2) (llen y.1)) = true) ∧
  Rfs (([y.1] : List (List UInt8))) (
  Rfs (([RS.at_ y.2, ((UInt8.toNat (gt (0 : UInt8) y.1 (Int.toNat (RS.at_ y.2))) : Nat) : Int)] : List Int)) (
  (
  ((ilt (8 : Int) (icv IntKind.i64 ((UInt8.toNat (gt (0 : UInt8) y.1 (Int.toNat (RS.at_ y.2))) : Nat) : Int))) = true) →
  (@Eq Int (0 : Int) (numR y.1 y.2)) ∧
  Rfs (([y.1] : List (List UInt8))) (
  (@Eq Int (RS.at_ y.2) (RS.at_ (numS y.1 y.2))) ∧
  (@Eq Int (4 : Int) (RS.err (numS y.1 y.2))) ∧
  True)) ∧
  (
  ((ilt (8 : Int) (icv IntKind.i64 ((UInt8.toNat (gt (0 : UInt8) y.1 (Int.toNat (RS.at_ y.2))) : Nat) : Int))) = false) →
  Rfs (([y.1] : List (List UInt8))) (
  Rfs (([RS.at_ y.2] : List Int)) (
  (
  ((ilt (isub IntKind.i64 (isub IntKind.i64 (llen y.1) (RS.at_ y.2)) (1 : Int)) (icv IntKind.i64 ((UInt8.toNat (gt (0 : UInt8) y.1 (Int.toNat (RS.at_ y.2))) : Nat) : Int))) = true) →
  (@Eq Int (0 : Int) (numR y.1 y.2)) ∧
  Rfs (([y.1] : List (List UInt8))) (
  (@Eq Int (RS.at_ y.2) (RS.at_ (numS y.1 y.2))) ∧
  (@Eq Int (3 : Int) (RS.err (numS y.1 y.2))) ∧
  True)) ∧
  (
  ((ilt (isub IntKind.i64 (isub IntKind.i64 (llen y.1) (RS.at_ y.2)) (1 : Int)) (icv IntKind.i64 ((UInt8.toNat (gt (0 : UInt8) y.1 (Int.toNat (RS.at_ y.2))) : Nat) : Int))) = false) →
  (
  (
  ((ilt (0 : Int) (icv IntKind.i64 ((UInt8.toNat (gt (0 : UInt8) y.1 (Int.toNat (RS.at_ y.2))) : Nat) : Int))) = true) →
  ((ile (0 : Int) (iadd IntKind.i64 (RS.at_ y.2) (1 : Int))) = true) ∧
  ((ilt (iadd IntKind.i64 (RS.at_ y.2) (1 : Int)) (llen y.1)) = true) ∧
  (
  ((ieq ((UInt8.toNat (gt (0 : UInt8) y.1 (Int.toNat (iadd IntKind.i64 (RS.at_ y.2) (1 : Int)))) : Nat) : Int) (0 : Int)) = true) →
  Rfs (([y.1] : List (List UInt8))) (
  Rfs (([RS.at_ y.2, ((UInt8.toNat (gt (0 : UInt8) y.1 (Int.toNat (iadd IntKind.i64 (RS.at_ y.2) (1 : Int)))) : Nat) : Int)] : List Int)) (
  (@Eq Int (0 : Int) (numR y.1 y.2)) ∧
  Rfs (([y.1] : List (List UInt8))) (
  (@Eq Int (RS.at_ y.2) (RS.at_ (numS y.1 y.2))) ∧
  (@Eq Int (4 : Int) (RS.err (numS y.1 y.2))) ∧
  True)))) ∧
  (
  ((ieq ((UInt8.toNat (gt (0 : UInt8) y.1 (Int.toNat (iadd IntKind.i64 (RS.at_ y.2) (1 : Int)))) : Nat) : Int) (0 : Int)) = false) →
  (
  ((ieq (icv IntKind.i64 ((UInt8.toNat (gt (0 : UInt8) y.1 (Int.toNat (RS.at_ y.2))) : Nat) : Int)) (8 : Int)) = true) →
  ((ile (0 : Int) (iadd IntKind.i64 (RS.at_ y.2) (1 : Int))) = true) ∧
  ((ilt (iadd IntKind.i64 (RS.at_ y.2) (1 : Int)) (llen y.1)) = true) ∧
  Rfs (([y.1] : List (List UInt8))) (
  Rfs (([RS.at_ y.2, ((UInt8.toNat (gt (0 : UInt8) y.1 (Int.toNat (iadd IntKind.i64 (RS.at_ y.2) (1 : Int)))) : Nat) : Int)] : List Int)) (
  Rfs (([y.1] : List (List UInt8))) (
  Rfs (([RS.at_ y.2, ((UInt8.toNat (gt (0 : UInt8) y.1 (Int.toNat (iadd IntKind.i64 (RS.at_ y.2) (1 : Int)))) : Nat) : Int)] : List Int)) (
  (
  ((ilt (127 : Int) ((UInt8.toNat (gt (0 : UInt8) y.1 (Int.toNat (iadd IntKind.i64 (RS.at_ y.2) (1 : Int)))) : Nat) : Int)) = true) →
  (@Eq Int (0 : Int) (numR y.1 y.2)) ∧
  Rfs (([y.1] : List (List UInt8))) (
  (@Eq Int (RS.at_ y.2) (RS.at_ (numS y.1 y.2))) ∧
  (@Eq Int (4 : Int) (RS.err (numS y.1 y.2))) ∧
  True)) ∧
  (
  ((ilt (127 : Int) ((UInt8.toNat (gt (0 : UInt8) y.1 (Int.toNat (iadd IntKind.i64 (RS.at_ y.2) (1 : Int)))) : Nat) : Int)) = false) →
  ∃ _z : Unit,
  Rfs (([icv IntKind.i64 ((UInt8.toNat (gt (0 : UInt8) y.1 (Int.toNat (RS.at_ y.2))) : Nat) : Int)] : List Int)) (
  Rfs (([y.1] : List (List UInt8))) (
  Rfs (([RS.at_ y.2, RS.err y.2] : List Int)) (
  (Iv (goodN y.1 y.2))))))))))) ∧
  (
  ((ieq (icv IntKind.i64 ((UInt8.toNat (gt (0 : UInt8) y.1 (Int.toNat (RS.at_ y.2))) : Nat) : Int)) (8 : Int)) = false) →
  Rfs (([y.1] : List (List UInt8))) (
  Rfs (([RS.at_ y.2, ((UInt8.toNat (gt (0 : UInt8) y.1 (Int.toNat (iadd IntKind.i64 (RS.at_ y.2) (1 : Int)))) : Nat) : Int)] : List Int)) (
  ∃ _z : Unit,
  Rfs (([icv IntKind.i64 ((UInt8.toNat (gt (0 : UInt8) y.1 (Int.toNat (RS.at_ y.2))) : Nat) : Int)] : List Int)) (
  Rfs (([y.1] : List (List UInt8))) (
  Rfs (([RS.at_ y.2, RS.err y.2] : List Int)) (
  (Iv (goodN y.1 y.2)))))))))) ∧
  (
  ((ilt (0 : Int) (icv IntKind.i64 ((UInt8.toNat (gt (0 : UInt8) y.1 (Int.toNat (RS.at_ y.2))) : Nat) : Int))) = false) →
  (
  ((ieq (icv IntKind.i64 ((UInt8.toNat (gt (0 : UInt8) y.1 (Int.toNat (RS.at_ y.2))) : Nat) : Int)) (8 : Int)) = true) →
  ((ile (0 : Int) (iadd IntKind.i64 (RS.at_ y.2) (1 : Int))) = true) ∧
  ((ilt (iadd IntKind.i64 (RS.at_ y.2) (1 : Int)) (llen y.1)) = true) ∧
  Rfs (([y.1] : List (List UInt8))) (
  Rfs (([RS.at_ y.2, ((UInt8.toNat (gt (0 : UInt8) y.1 (Int.toNat (iadd IntKind.i64 (RS.at_ y.2) (1 : Int)))) : Nat) : Int)] : List Int)) (
  (
  ((ilt (127 : Int) ((UInt8.toNat (gt (0 : UInt8) y.1 (Int.toNat (iadd IntKind.i64 (RS.at_ y.2) (1 : Int)))) : Nat) : Int)) = true) →
  (@Eq Int (0 : Int) (numR y.1 y.2)) ∧
  Rfs (([y.1] : List (List UInt8))) (
  (@Eq Int (RS.at_ y.2) (RS.at_ (numS y.1 y.2))) ∧
  (@Eq Int (4 : Int) (RS.err (numS y.1 y.2))) ∧
  True)) ∧
  (
  ((ilt (127 : Int) ((UInt8.toNat (gt (0 : UInt8) y.1 (Int.toNat (iadd IntKind.i64 (RS.at_ y.2) (1 : Int)))) : Nat) : Int)) = false) →
  ∃ _z : Unit,
  Rfs (([icv IntKind.i64 ((UInt8.toNat (gt (0 : UInt8) y.1 (Int.toNat (RS.at_ y.2))) : Nat) : Int)] : List Int)) (
  Rfs (([y.1] : List (List UInt8))) (
  Rfs (([RS.at_ y.2, RS.err y.2] : List Int)) (
  (Iv (goodN y.1 y.2))))))))) ∧
  (
  ((ieq (icv IntKind.i64 ((UInt8.toNat (gt (0 : UInt8) y.1 (Int.toNat (RS.at_ y.2))) : Nat) : Int)) (8 : Int)) = false) →
  ∃ _z : Unit,
  Rfs (([icv IntKind.i64 ((UInt8.toNat (gt (0 : UInt8) y.1 (Int.toNat (RS.at_ y.2))) : Nat) : Int)] : List Int)) (
  Rfs (([y.1] : List (List UInt8))) (
  Rfs (([RS.at_ y.2, RS.err y.2] : List Int)) (
  (Iv (goodN y.1 y.2)))))))) ∧
  (
  ∀ _x : Unit,
  (Iv (goodN y.1 y.2)) →
  (
  ∃ z : Nat,
  Rfs (([icv IntKind.i64 ((UInt8.toNat (gt (0 : UInt8) y.1 (Int.toNat (RS.at_ y.2))) : Nat) : Int)] : List Int)) (
  (@Eq Int (0 : Int) ((beF (List.take z (vF y.1 y.2)) : Nat) : Int)) ∧
  (@Eq Int (0 : Int) ((z : Nat) : Int)) ∧
  Rfs (([y.1] : List (List UInt8))) (
  Rfs (([RS.at_ y.2, RS.err y.2] : List Int)) (
  (Iv ((z : Nat) ≤ (kF y.1 y.2))))))) ∧
  (
  ∀ x1 : Nat,
  (Iv ((x1 : Nat) ≤ (kF y.1 y.2))) →
  (
  ((ilt ((x1 : Nat) : Int) (icv IntKind.i64 ((UInt8.toNat (gt (0 : UInt8) y.1 (Int.toNat (RS.at_ y.2))) : Nat) : Int))) = true) →
  ((ile (0 : Int) (8 : Int)) = true) ∧
  ((ile (0 : Int) (iadd IntKind.i64 (iadd IntKind.i64 (RS.at_ y.2) (1 : Int)) ((x1 : Nat) : Int))) = true) ∧
  ((ilt (iadd IntKind.i64 (iadd IntKind.i64 (RS.at_ y.2) (1 : Int)) ((x1 : Nat) : Int)) (llen y.1)) = true) ∧
  Rfs (([y.1] : List (List UInt8))) (
  Rfs (([RS.at_ y.2, ((UInt8.toNat (gt (0 : UInt8) y.1 (Int.toNat (iadd IntKind.i64 (iadd IntKind.i64 (RS.at_ y.2) (1 : Int)) ((x1 : Nat) : Int)))) : Nat) : Int)] : List Int)) (
  ∃ z : Nat,
  Rfs (([icv IntKind.i64 ((UInt8.toNat (gt (0 : UInt8) y.1 (Int.toNat (RS.at_ y.2))) : Nat) : Int)] : List Int)) (
  (@Eq Int (ior IntKind.i64 (ishl IntKind.i64 ((beF (List.take x1 (vF y.1 y.2)) : Nat) : Int) (8 : Int)) (icv IntKind.i64 ((UInt8.toNat (gt (0 : UInt8) y.1 (Int.toNat (iadd IntKind.i64 (iadd IntKind.i64 (RS.at_ y.2) (1 : Int)) ((x1 : Nat) : Int)))) : Nat) : Int))) ((beF (List.take z (vF y.1 y.2)) : Nat) : Int)) ∧
  (@Eq Int (iadd IntKind.i64 ((x1 : Nat) : Int) (1 : Int)) ((z : Nat) : Int)) ∧
  Rfs (([y.1] : List (List UInt8))) (
  Rfs (([RS.at_ y.2, RS.err y.2] : List Int)) (
  (Iv (((z : Nat) ≤ (kF y.1 y.2)) ∧ ((kF y.1 y.2 : Nat) - z : Nat) < ((kF y.1 y.2 : Nat) - x1))))))))) ∧
  (
  ((ilt ((x1 : Nat) : Int) (icv IntKind.i64 ((UInt8.toNat (gt (0 : UInt8) y.1 (Int.toNat (RS.at_ y.2))) : Nat) : Int))) = false) →
  (@Eq Int ((beF (List.take x1 (vF y.1 y.2)) : Nat) : Int) (numR y.1 y.2)) ∧
  Rfs (([y.1] : List (List UInt8))) (
  (@Eq Int (iadd IntKind.i64 (iadd IntKind.i64 (RS.at_ y.2) (1 : Int)) (icv IntKind.i64 ((UInt8.toNat (gt (0 : UInt8) y.1 (Int.toNat (RS.at_ y.2))) : Nat) : Int))) (RS.at_ (numS y.1 y.2))) ∧
  (@Eq Int (RS.err y.2) (RS.err (numS y.1 y.2))) ∧
  True))))))))))))))
theorem rnumRV_eq : ∀ y, rnumRVC y = rnumRV y := fun y => by kernel_rfl
end Go.Proofs.YtacolbfofamocaaGreat.sx
/- Readers' numbers: the contracts hold. -/
namespace Go.Proofs.YtacolbfofamocaaGreat.sx
open Go Go.RowKit
set_option maxRecDepth 100000
theorem beF_snoc (l : By) (x : UInt8) : beF (l ++ [x]) = beF l * 256 + x.toNat := by unfold beF; rw [List.foldl_append]; rfl
theorem beF_take {l : By} {i : Nat} (h : i < l.length) : beF (l.take (i + 1)) = beF (l.take i) * 256 + (l[i]).toNat := by
  rw [← List.take_append_getElem h]
  exact beF_snoc _ _
theorem beF_from (l : By) : ∀ u : Nat, l.foldl (fun u x => u * 256 + x.toNat) u = u * 256 ^ l.length + beF l := by
  induction l with
  | nil => intro u; simp [beF]
  | cons x l ih =>
    intro u
    have h2 := ih (0 * 256 + x.toNat)
    unfold beF
    rw [List.foldl_cons, List.foldl_cons, ih, h2, List.length_cons, Nat.pow_succ]
    rw [Nat.zero_mul, Nat.zero_add, Nat.add_mul, Nat.mul_assoc, Nat.mul_comm 256, Nat.add_assoc]
theorem beF_head (x : UInt8) (l : By) : beF (x :: l) = x.toNat * 256 ^ l.length + beF l := by
  have := beF_from l (0 * 256 + x.toNat)
  rw [Nat.zero_mul, Nat.zero_add] at this
  rw [← this]
  unfold beF
  rw [List.foldl_cons, Nat.zero_mul, Nat.zero_add]
theorem beF_lt (l : By) : beF l < 256 ^ l.length := by
  induction l with
  | nil => simp [beF]
  | cons x l ih =>
    rw [beF_head, List.length_cons, Nat.pow_succ]
    have h1 := x.toNat_lt
    have h2 : x.toNat * 256 ^ l.length ≤ 255 * 256 ^ l.length := Nat.mul_le_mul_right _ (by omega)
    generalize x.toNat * 256 ^ l.length = a at *
    generalize 256 ^ l.length = b at *
    omega
theorem iorU {u x : Nat} (hu : u < 72057594037927936) (hx : x < 256) : ior .u64 (ishl .u64 (u : Int) (8 : Int)) (x : Int) = ((u * 256 + x : Nat) : Int) := by
  have e : ishl .u64 (u : Int) (8 : Int) = ((u * 256 : Nat) : Int) := by
    unfold ishl
    show IntKind.wrap .u64 ((u : Int) * 2 ^ 8) = _
    rw [inR_wrap (inRu64.2 ⟨by omega, by omega⟩)]
    omega
  rw [e]
  have t : Nat.lor (u * 256) x = u * 256 + x := by
    have := Nat.two_pow_add_eq_or_of_lt (i := 8) (b := x) hx u
    rw [show (2 : Nat) ^ 8 * u = u * 256 by omega] at this
    exact this.symm
  show IntKind.wrap .u64 (Int.ofNat (Nat.lor (toN .u64 (Int.ofNat (u * 256))) (toN .u64 (Int.ofNat x)))) = _
  have t2 : ∀ n : Nat, n < 18446744073709551616 → toN .u64 (Int.ofNat n) = n := fun n hn => Nat.mod_eq_of_lt hn
  rw [t2 _ (by omega), t2 _ (by omega), t]
  exact inR_wrap (inRu64.2 ⟨by simp; omega, by simp; omega⟩)
theorem ior64 {u x : Nat} (hu : u < 36028797018963968) (hx : x < 256) : ior .i64 (ishl .i64 (u : Int) (8 : Int)) (x : Int) = ((u * 256 + x : Nat) : Int) := by
  have e : ishl .i64 (u : Int) (8 : Int) = ((u * 256 : Nat) : Int) := by
    unfold ishl
    show IntKind.wrap .i64 ((u : Int) * 2 ^ 8) = _
    rw [inR_wrap (inR64.2 ⟨by omega, by omega⟩)]
    omega
  rw [e]
  have t : Nat.lor (u * 256) x = u * 256 + x := by
    have := Nat.two_pow_add_eq_or_of_lt (i := 8) (b := x) hx u
    rw [show (2 : Nat) ^ 8 * u = u * 256 by omega] at this
    exact this.symm
  show IntKind.wrap .i64 (Int.ofNat (Nat.lor (toN .i64 (Int.ofNat (u * 256))) (toN .i64 (Int.ofNat x)))) = _
  have t2 : ∀ n : Nat, n < 18446744073709551616 → toN .i64 (Int.ofNat n) = n := fun n hn => Nat.mod_eq_of_lt hn
  rw [t2 _ (by omega), t2 _ (by omega), t]
  exact inR_wrap (inR64.2 ⟨by simp; omega, by simp; omega⟩)
theorem icv64 {n : Int} (h1 : -9223372036854775808 ≤ n) (h2 : n ≤ 9223372036854775807) : icv .i64 n = n := inR_wrap (inR64.2 ⟨h1, h2⟩)
theorem numB1 {l : By} {s : RS} (h : s.err ≠ 0) : numB l s = (0, s) := by unfold numB; rw [if_pos h]
theorem numB2 {l : By} {s : RS} (h : s.err = 0) (h2 : (l.length : Int) ≤ s.at_) : numB l s = (0, ⟨s.at_, 3⟩) := by unfold numB; rw [if_neg (by simp [h]), if_pos h2]
theorem numB3 {l : By} {s : RS} (h : s.err = 0) (h2 : s.at_ < l.length) (h3 : 8 < kF l s) : numB l s = (0, ⟨s.at_, 4⟩) := by unfold numB; rw [if_neg (by simp [h]), if_neg (by omega), if_pos h3]
theorem numB4 {l : By} {s : RS} (h : s.err = 0) (h2 : s.at_ < l.length) (h3 : ¬ 8 < kF l s) (h4 : (l.length : Int) < s.at_ + 1 + kF l s) : numB l s = (0, ⟨s.at_, 3⟩) := by unfold numB; rw [if_neg (by simp [h]), if_neg (by omega), if_neg h3, if_pos h4]
theorem numB5 {l : By} {s : RS} (h : s.err = 0) (h2 : s.at_ < l.length) (h3 : ¬ 8 < kF l s) (h4 : ¬ (l.length : Int) < s.at_ + 1 + kF l s) (h5 : badN l s) : numB l s = (0, ⟨s.at_, 4⟩) := by unfold numB; rw [if_neg (by simp [h]), if_neg (by omega), if_neg h3, if_neg h4, if_pos h5]
theorem numB6 {l : By} {s : RS} (h : s.err = 0) (h2 : s.at_ < l.length) (h3 : ¬ 8 < kF l s) (h4 : ¬ (l.length : Int) < s.at_ + 1 + kF l s) (h5 : ¬ badN l s) : numB l s = ((beF (vF l s) : Int), ⟨s.at_ + 1 + kF l s, 0⟩) := by
  unfold numB; rw [if_neg (by simp [h]), if_neg (by omega), if_neg h3, if_neg h4, if_neg h5]
theorem readH (y : By) (hy : readC.pre y) : readVC y := by
  have h : y.length ≤ 1073741824 := hy
  unfold readVC
  simp only [Rfs_eq, fits_t, llen_eq, and_true]
  omega
theorem rreadH (y : By) (hy : rreadC.pre y) : rreadVC y := by
  have h : y.length ≤ 1073741824 := hy
  unfold rreadVC
  simp only [Rfs_eq, fits_t, llen_eq, lcat_eq, List.nil_append, and_true]
  omega
theorem wrongH (y : (By × RS) × RS) (_ : wrongC.pre y) : wrongVC y := by
  unfold wrongVC
  simp only [Rfs_eq]
theorem readOk : Ok readC := okOf (tab := []) (fn := Tryz.f11) (orc := readO) (by simp) (by kernel_rfl) (by kernel_rfl) (fun _ => by exact Nat.le_of_ble_eq_true (by kernel_rfl)) fun y hy => Eq.mp (readV_eq y) (readH y hy)
theorem rreadOk : Ok rreadC := okOf (tab := []) (fn := Tryz.f12) (orc := rreadO) (by simp) (by kernel_rfl) (by kernel_rfl) (fun _ => by exact Nat.le_of_ble_eq_true (by kernel_rfl)) fun y hy => Eq.mp (rreadV_eq y) (rreadH y hy)
theorem wrongOk : Ok wrongC := okOf (tab := []) (fn := Tryz.f59) (orc := wrongO) (by simp) (by kernel_rfl) (by kernel_rfl) (fun _ => by exact Nat.le_of_ble_eq_true (by kernel_rfl)) fun y hy => Eq.mp (wrongV_eq y) (wrongH y hy)
/-- what is known of a number's bytes -/
theorem vF_len {l : By} {s : RS} (h0 : 0 ≤ s.at_) (h4 : ¬ (l.length : Int) < s.at_ + 1 + kF l s) : (vF l s).length = kF l s := by
  unfold vF restF
  simp only [List.length_take, List.length_drop]
  omega
theorem vF_at {l : By} {s : RS} {i : Nat} (hi : i < kF l s) : gt (0 : UInt8) (vF l s) i = l.getD (s.at_.toNat + 1 + i) 0 := by
  unfold gt vF restF
  simp only [List.getD_eq_getElem?_getD, List.getElem?_take, if_pos hi, List.getElem?_drop]
  congr 2
  omega
theorem gt_getElem {l : By} {i : Nat} (h : i < l.length) : gt (0 : UInt8) l i = l[i] := gt_get h
theorem numRH (y : By × RS) (hy : numRC.pre y) : numRVC y := by
  obtain ⟨l, s⟩ := y
  have ha : 0 ≤ s.at_ ∧ s.at_ ≤ l.length ∧ l.length ≤ 1073741824 := hy
  unfold numRVC
  have hk : icv IntKind.i64 ((UInt8.toNat (gt (0 : UInt8) (ldrop l s.at_) 0) : Nat) : Int) = (kF l s : Int) := by
    have e : gt (0 : UInt8) (ldrop l s.at_) 0 = l.getD s.at_.toNat 0 := by unfold gt ldrop; simp [List.getD_eq_getElem?_getD]
    rw [e, icv64 (by omega) (by have := (l.getD s.at_.toNat 0).toNat_lt; omega)]; rfl
  have hl : llen (ldrop l s.at_) = (l.length : Int) - s.at_ := by unfold llen ldrop; rw [List.length_drop]; omega
  have hkl : kF l s < 256 := (l.getD s.at_.toNat 0).toNat_lt
  have hq : iadd IntKind.i64 (1 : Int) (kF l s : Int) = 1 + (kF l s : Int) := iadd64 (by omega) (by omega)
  have hg1 : gt (0 : UInt8) (ldrop l s.at_) 1 = l.getD (s.at_.toNat + 1) 0 := by unfold gt ldrop; simp [List.getD_eq_getElem?_getD]
  have hv : ldrop (ltake (ldrop l s.at_) (1 + (kF l s : Int))) 1 = vF l s := by
    unfold ldrop ltake vF restF
    rw [List.drop_take]
    congr 1
    omega
  have hsh : ∀ u : Nat, ishr IntKind.u64 (u : Int) 63 = ((u / 9223372036854775808 : Nat) : Int) := fun u => rfl
  simp only [Rfs_eq, hk, hl, hq, hg1, hv, hsh, and_true, ile_t, ilt_t, ilt_f, ieq_t, ieq_f, Bool.not_eq_true', Bool.not_eq_false']
  refine ⟨fun h => ?_, fun h => ⟨ha.1, ha.2.1, fun h2 => ?_, fun h2 => ⟨by omega, by omega, fun h3 => ?_, fun h3 => ⟨fun h4 => ?_, fun h4 => ?_⟩⟩⟩⟩
  · have e := numB1 (l := l) h
    unfold numR numS; rw [e]; exact ⟨rfl, rfl, rfl⟩
  · have e := numB2 (l := l) h (by omega)
    unfold numR numS; rw [e]; exact ⟨⟨trivial⟩, rfl, rfl, rfl⟩
  · have e := numB3 (l := l) h (by omega) (by omega)
    unfold numR numS; rw [e]; exact ⟨⟨trivial⟩, rfl, rfl, rfl⟩
  · have e := numB4 (l := l) h (by omega) (by omega) (by omega)
    unfold numR numS; rw [e]; exact ⟨⟨trivial⟩, rfl, rfl, rfl⟩
  · have hk4 : ¬ (l.length : Int) < s.at_ + 1 + kF l s := by omega
    have hvl := vF_len ha.1 hk4
    have hve : llen (vF l s) = kF l s := by rw [llen_eq, hvl]
    simp only [hve]
    have hlt := beF_lt (vF l s)
    rw [hvl] at hlt
    refine ⟨by omega, h4, by omega, ?_, ⟨0, rfl, rfl, ⟨Nat.zero_le _⟩⟩, fun x hx => ⟨fun h5 => ⟨by omega, h5, by omega, x + 1, ?_, ?_, ⟨by omega, by omega⟩⟩, fun h5 => ?_⟩⟩
    · unfold llen ltake ldrop
      rw [List.length_take, List.length_drop]
      omega
    · have hx2 : x < (vF l s).length := by omega
      rw [beF_take hx2, show ((x : Int)).toNat = x from rfl, gt_getElem hx2, icvU (by omega) (by have := ((vF l s)[x]).toNat_lt; omega)]
      refine iorU ?_ ((vF l s)[x]).toNat_lt
      have h6 := beF_lt ((vF l s).take x)
      rw [List.length_take, Nat.min_eq_left (by omega)] at h6
      have h7 : 256 ^ x ≤ 256 ^ 7 := Nat.pow_le_pow_right (by omega) (by omega)
      omega
    · rw [iadd64 (by omega) (by omega)]; rfl
    · have hx3 : x = kF l s := by have := hx.out; omega
      have hxt : (vF l s).take x = vF l s := List.take_of_length_le (by omega)
      rw [hxt]
      have hbig : beF (vF l s) < 18446744073709551616 := by
        have h7 : 256 ^ (kF l s) ≤ 256 ^ 8 := Nat.pow_le_pow_right (by omega) (by omega)
        omega
      have good : ¬ badN l s → icv IntKind.i64 (beF (vF l s) : Int) = numR l s ∧ iadd IntKind.i64 s.at_ (1 + (kF l s : Int)) = (numS l s).at_ ∧ s.err = (numS l s).err := fun hb => by
        have e := numB6 (l := l) h (by omega) (by omega) hk4 hb
        have hb2 : beF (vF l s) < 9223372036854775808 := by unfold badN at hb; omega
        unfold numR numS; rw [e]
        refine ⟨icv64 (by omega) (by omega), ?_, h⟩
        rw [iadd64 (by omega) (by omega)]
        show s.at_ + (1 + (kF l s : Int)) = s.at_ + 1 + (kF l s : Int)
        omega
      have bad : badN l s → Iv True ∧ 0 = numR l s ∧ s.at_ = (numS l s).at_ ∧ 4 = (numS l s).err := fun hb => by
        have e := numB5 (l := l) h (by omega) (by omega) hk4 hb
        unfold numR numS; rw [e]; exact ⟨⟨trivial⟩, rfl, rfl, rfl⟩
      refine ⟨fun h6 => ⟨by omega, by omega, fun h7 => bad (.inl ⟨by omega, by omega⟩), fun h7 => ⟨by omega, by omega, fun h8 => bad (.inr (by omega)), fun h8 => good ?_⟩⟩, fun h6 => ⟨by omega, by omega, fun h8 => bad (.inr (by omega)), fun h8 => good ?_⟩⟩
      · unfold badN; omega
      · unfold badN; omega
theorem numROk : Ok numRC := okOf (tab := [wrongC]) (fn := Tryz.f31) (orc := numRO) (by simp; exact wrongOk) (by kernel_rfl) (by kernel_rfl) (fun _ => by exact Nat.le_of_ble_eq_true (by kernel_rfl)) fun y hy => Eq.mp (numRV_eq y) (numRH y hy)
theorem rnumRH (y : By × RS) (hy : rnumRC.pre y) : rnumRVC y := by
  obtain ⟨l, s⟩ := y
  have ha : 0 ≤ s.at_ ∧ s.at_ ≤ l.length ∧ l.length ≤ 1073741824 := hy
  unfold rnumRVC
  have hk : icv IntKind.i64 ((UInt8.toNat (gt (0 : UInt8) l s.at_.toNat) : Nat) : Int) = (kF l s : Int) := by
    rw [icv64 (by omega) (by have := (gt (0 : UInt8) l s.at_.toNat).toNat_lt; omega)]; rfl
  have hkl : kF l s < 256 := (l.getD s.at_.toNat 0).toNat_lt
  have hq : iadd IntKind.i64 s.at_ (1 : Int) = s.at_ + 1 := iadd64 (by omega) (by omega)
  have hg1 : gt (0 : UInt8) l (s.at_ + 1).toNat = l.getD (s.at_.toNat + 1) 0 := by unfold gt; congr 1; omega
  have hs : isub IntKind.i64 (isub IntKind.i64 (l.length : Int) s.at_) 1 = (l.length : Int) - s.at_ - 1 := by rw [isub64 (a := (l.length : Int)) (b := s.at_) (by omega) (by omega), isub64 (by omega) (by omega)]
  have hq2 : iadd IntKind.i64 (s.at_ + 1) (kF l s : Int) = s.at_ + 1 + (kF l s : Int) := iadd64 (by omega) (by omega)
  have hq3 : ∀ x : Nat, x ≤ 8 → iadd IntKind.i64 (s.at_ + 1) (x : Int) = s.at_ + 1 + (x : Int) := fun x hx => iadd64 (by omega) (by omega)
  simp only [Rfs_eq, llen_eq, hk, hq, hq2, hg1, hs, and_true, ile_t, ile_f, ilt_t, ilt_f, ieq_t, ieq_f, Bool.not_eq_true', Bool.not_eq_false']
  refine ⟨fun h => ?_, fun h => ⟨fun h2 => ?_, fun h2 => ⟨ha.1, h2, fun h3 => ?_, fun h3 => ⟨fun h4 => ?_, fun h4 => ?_⟩⟩⟩⟩
  · have e := numB1 (l := l) h
    unfold numR numS; rw [e]; exact ⟨rfl, rfl, rfl⟩
  · have e := numB2 (l := l) h (by omega)
    unfold numR numS; rw [e]; exact ⟨rfl, rfl, rfl⟩
  · have e := numB3 (l := l) h (by omega) (by omega)
    unfold numR numS; rw [e]; exact ⟨rfl, rfl, rfl⟩
  · have e := numB4 (l := l) h (by omega) (by omega) (by omega)
    unfold numR numS; rw [e]; exact ⟨rfl, rfl, rfl⟩
  · have hk4 : ¬ (l.length : Int) < s.at_ + 1 + kF l s := by omega
    have hvl := vF_len ha.1 hk4
    have hlt := beF_lt (vF l s)
    rw [hvl] at hlt
    have bad : badN l s → 0 = numR l s ∧ s.at_ = (numS l s).at_ ∧ 4 = (numS l s).err := fun hb => by
      have e := numB5 (l := l) h (by omega) (by omega) hk4 hb
      unfold numR numS; rw [e]; exact ⟨rfl, rfl, rfl⟩
    have small : kF l s ≠ 8 → beF (vF l s) < 9223372036854775808 := fun h5 => by
      have h7 : 256 ^ (kF l s) ≤ 256 ^ 7 := Nat.pow_le_pow_right (by omega) (by omega)
      omega
    have big : kF l s = 8 → (9223372036854775808 ≤ beF (vF l s) ↔ 127 < (List.getD l (s.at_.toNat + 1) 0).toNat) := fun h5 => by
      have e0 := vF_at (l := l) (s := s) (i := 0) (by omega)
      rw [Nat.add_zero] at e0
      rw [← e0]
      cases hv : vF l s with
      | nil => rw [hv] at hvl; simp at hvl; omega
      | cons x m =>
        rw [hv] at hvl
        have hm : m.length = 7 := by simp at hvl; omega
        have e1 := beF_head x m
        have e2 := beF_lt m
        rw [hm] at e1 e2
        show _ ↔ 127 < x.toNat
        rw [e1]
        omega
    refine ⟨⟨fun h5 => ⟨by omega, by omega, fun h6 => bad (.inl ⟨by omega, by omega⟩), fun h6 => ⟨fun h7 => ⟨by omega, by omega, fun h8 => bad (.inr ((big (by omega)).2 (by omega))), fun h8 => ⟨(), ⟨?_⟩⟩⟩, fun h7 => ⟨(), ⟨?_⟩⟩⟩⟩,
      fun h5 => ⟨fun h6 => (by omega), fun h6 => ⟨(), ⟨?_⟩⟩⟩⟩, fun _ hg => ⟨⟨0, rfl, rfl, ⟨Nat.zero_le _⟩⟩, fun x hx => ⟨fun h5 => ?_, fun h5 => ?_⟩⟩⟩
    · rintro (⟨_, h9⟩ | h9)
      · omega
      · have := (big (by omega)).1 h9; omega
    · have := small (by omega)
      rintro (⟨_, h9⟩ | h9) <;> omega
    · have := small (by omega)
      rintro (⟨_, h9⟩ | h9) <;> omega
    · have hg := hg.out
      have hb2 : beF (vF l s) < 9223372036854775808 := by unfold goodN badN at hg; omega
      have hx2 : x < (vF l s).length := by omega
      rw [hq3 x (by omega)]
      refine ⟨by omega, by omega, by omega, x + 1, ?_, ?_, ⟨by omega, by omega⟩⟩
      · have e : gt (0 : UInt8) l (s.at_ + 1 + (x : Int)).toNat = (vF l s)[x] := by
          rw [← gt_getElem hx2, vF_at (by omega)]
          unfold gt
          congr 1
          omega
        rw [e, beF_take hx2, icv64 (by omega) (by have := ((vF l s)[x]).toNat_lt; omega)]
        refine ior64 ?_ ((vF l s)[x]).toNat_lt
        have h6 := beF_lt ((vF l s).take x)
        rw [List.length_take, Nat.min_eq_left (by omega)] at h6
        by_cases h7 : x = 7
        · subst h7
          have h8 := beF_take hx2
          rw [List.take_of_length_le (show (vF l s).length ≤ 7 + 1 by omega)] at h8
          omega
        · have h7 : 256 ^ x ≤ 256 ^ 6 := Nat.pow_le_pow_right (by omega) (by omega)
          omega
      · rw [iadd64 (by omega) (by omega)]; rfl
    · have hx3 : x = kF l s := by have := hx.out; omega
      have e := numB6 (l := l) h (by omega) (by omega) hk4 hg.out
      unfold numR numS; rw [e, List.take_of_length_le (by omega)]
      exact ⟨rfl, rfl, h⟩
theorem rnumROk : Ok rnumRC := okOf (tab := []) (fn := Tryz.f35) (orc := rnumRO) (by simp) (by kernel_rfl) (by kernel_rfl) (fun _ => by exact Nat.le_of_ble_eq_true (by kernel_rfl)) fun y hy => Eq.mp (rnumRV_eq y) (rnumRH y hy)
end Go.Proofs.YtacolbfofamocaaGreat.sx
/- Contracts of readers: flags, bounded numbers, texts. -/
namespace Go.Proofs.YtacolbfofamocaaGreat.sx
open Go Go.RowKit
noncomputable section
def flagB (l : By) (s : RS) : Bool × RS := if (numS l s).err = 0 ∧ 1 < numR l s then (false, ⟨s.at_, 4⟩) else (decide ((numS l s).err = 0 ∧ numR l s = 1), numS l s)
def flagR (l : By) (s : RS) : Bool := (flagB l s).1
def flagS (l : By) (s : RS) : RS := (flagB l s).2
def uptoB (l : By) (s : RS) (m : Int) : Int × RS := if (numS l s).err = 0 ∧ m < numR l s then (0, ⟨s.at_, 2⟩) else (numR l s, numS l s)
def uptoR (l : By) (s : RS) (m : Int) : Int := (uptoB l s m).1
def uptoS (l : By) (s : RS) (m : Int) : RS := (uptoB l s m).2
def textB (l : By) (s : RS) (m : Int) : By × RS :=
  if (uptoS l s m).err ≠ 0 then ([], uptoS l s m)
  else if (l.length : Int) - (uptoS l s m).at_ < uptoR l s m then ([], ⟨s.at_, 3⟩)
  else (ldrop (ltake l ((uptoS l s m).at_ + uptoR l s m)) (uptoS l s m).at_, ⟨(uptoS l s m).at_ + uptoR l s m, 0⟩)
def textR (l : By) (s : RS) (m : Int) : By := (textB l s m).1
def textS (l : By) (s : RS) (m : Int) : RS := (textB l s m).2
def flagRC : Con D := { numRC with f := 32, res := fun y => .bool (flagR y.1 y.2), heap' := fun y => rdO y.1 (flagS y.1 y.2) }
def flagRO (_ : flagRC.Y) : Orc D := noO ()
def flagRV (y : flagRC.Y) : Prop := vcOf [numRC, wrongC] Tryz.f32 flagRC flagRO y
def rflagRC : Con D := { rnumRC with f := 36, res := fun y => .bool (flagR y.1 y.2), heap' := fun y => rrdO y.1 (flagS y.1 y.2) }
def rflagRO (_ : rflagRC.Y) : Orc D := noO ()
def rflagRV (y : rflagRC.Y) : Prop := vcOf [rnumRC] Tryz.f36 rflagRC rflagRO y
def uptoRC : Con D where
  f := 96
  Y := (By × RS) × Int
  inp := fun args s => match args with
    | [p, m] => bnd (asR p s) fun y => bnd2 (asI m) fun _ m => .ret (y, m)
    | _ => .fail
  pre := fun y => RdOk y.1
  args := fun y => [.ptr 0 0, .int .i64 y.2]
  heap := fun y => rdO y.1.1 y.1.2
  res := fun y => .int .i64 (uptoR y.1.1 y.1.2 y.2)
  heap' := fun y => rdO y.1.1 (uptoS y.1.1 y.1.2 y.2)
  nx0 := 1
  nx1 := 1
def uptoRO (_ : uptoRC.Y) : Orc D := noO ()
def uptoRV (y : uptoRC.Y) : Prop := vcOf [numRC, wrongC] Tryz.f96 uptoRC uptoRO y
def ruptoRC : Con D := { uptoRC with f := 97, heap := fun y => rrdO y.1.1 y.1.2, heap' := fun y => rrdO y.1.1 (uptoS y.1.1 y.1.2 y.2) }
def ruptoRO (_ : ruptoRC.Y) : Orc D := noO ()
def ruptoRV (y : ruptoRC.Y) : Prop := vcOf [rnumRC] Tryz.f97 ruptoRC ruptoRO y
def textRC : Con D := { uptoRC with f := 65, res := fun y => .str (textR y.1.1 y.1.2 y.2), heap' := fun y => rdO y.1.1 (textS y.1.1 y.1.2 y.2) }
def textRO (_ : textRC.Y) : Orc D := noO ()
def textRV (y : textRC.Y) : Prop := vcOf [uptoRC, wrongC] Tryz.f65 textRC textRO y
def rtextRC : Con D := { ruptoRC with f := 68, res := fun y => .str (textR y.1.1 y.1.2 y.2), heap' := fun y => rrdO y.1.1 (textS y.1.1 y.1.2 y.2) }
def rtextRO (_ : rtextRC.Y) : Orc D := noO ()
def rtextRV (y : rtextRC.Y) : Prop := vcOf [ruptoRC] Tryz.f68 rtextRC rtextRO y
def atRC : Con D := { numRC with f := 15, pre := fun _ => True, res := fun y => .int .i64 y.2.at_, heap' := fun y => rdO y.1 y.2 }
def atRO (_ : atRC.Y) : Orc D := noO ()
def atRV (y : atRC.Y) : Prop := vcOf [] Tryz.f15 atRC atRO y
def errRC : Con D := { numRC with f := 16, pre := fun _ => True, res := fun y => .int .i64 y.2.err, heap' := fun y => rdO y.1 y.2 }
def errRO (_ : errRC.Y) : Orc D := noO ()
def errRV (y : errRC.Y) : Prop := vcOf [] Tryz.f16 errRC errRO y
end
end Go.Proofs.YtacolbfofamocaaGreat.sx
/- Conditions, as a tool printed them; that they are the functions' own the kernel computes. -/
namespace Go.Proofs.YtacolbfofamocaaGreat.sx
open Go Go.RowKit
def flagRVC (y : Prod (List UInt8) RS) : Prop :=
 (Iv (RdOk (y.1, RS.mk (RS.at_ y.2) (RS.err y.2)))) ∧
 Rfs (([y.1] : List (List UInt8))) (
  Rfs (([RS.at_ y.2, RS.err y.2] : List Int)) (
  (
  ((ieq (RS.err (numS y.1 y.2)) (0 : Int)) = true) →
  (
  ((ilt (1 : Int) (numR y.1 y.2)) = true) →
  (Iv True) ∧
  Rfs (([RS.at_ y.2, (4 : Int)] : List Int)) (
  Rfs (([y.1] : List (List UInt8))) (
  Rfs (([RS.at_ (numS y.1 y.2), RS.err (numS y.1 y.2)] : List Int)) (
  (
  ((ieq (4 : Int) (0 : Int)) = true) →
  (@Eq Bool (ieq (numR y.1 y.2) (1 : Int)) (flagR y.1 y.2)) ∧
  Rfs (([y.1] : List (List UInt8))) (
  (@Eq Int (RS.at_ y.2) (RS.at_ (flagS y.1 y.2))) ∧
  (@Eq Int (4 : Int) (RS.err (flagS y.1 y.2))) ∧
  True)) ∧
  (
  ((ieq (4 : Int) (0 : Int)) = false) →
  (@Eq Bool Bool.false (flagR y.1 y.2)) ∧
  Rfs (([y.1] : List (List UInt8))) (
  (@Eq Int (RS.at_ y.2) (RS.at_ (flagS y.1 y.2))) ∧
  (@Eq Int (4 : Int) (RS.err (flagS y.1 y.2))) ∧
  True)))))) ∧
  (
  ((ilt (1 : Int) (numR y.1 y.2)) = false) →
  (
  ((ieq (RS.err (numS y.1 y.2)) (0 : Int)) = true) →
  (@Eq Bool (ieq (numR y.1 y.2) (1 : Int)) (flagR y.1 y.2)) ∧
  Rfs (([y.1] : List (List UInt8))) (
  (@Eq Int (RS.at_ (numS y.1 y.2)) (RS.at_ (flagS y.1 y.2))) ∧
  (@Eq Int (RS.err (numS y.1 y.2)) (RS.err (flagS y.1 y.2))) ∧
  True)) ∧
  (
  ((ieq (RS.err (numS y.1 y.2)) (0 : Int)) = false) →
  (@Eq Bool Bool.false (flagR y.1 y.2)) ∧
  Rfs (([y.1] : List (List UInt8))) (
  (@Eq Int (RS.at_ (numS y.1 y.2)) (RS.at_ (flagS y.1 y.2))) ∧
  (@Eq Int (RS.err (numS y.1 y.2)) (RS.err (flagS y.1 y.2))) ∧
  True)))) ∧
  (
  ((ieq (RS.err (numS y.1 y.2)) (0 : Int)) = false) →
  (
  ((ieq (RS.err (numS y.1 y.2)) (0 : Int)) = true) →
  (@Eq Bool (ieq (numR y.1 y.2) (1 : Int)) (flagR y.1 y.2)) ∧
  Rfs (([y.1] : List (List UInt8))) (
  (@Eq Int (RS.at_ (numS y.1 y.2)) (RS.at_ (flagS y.1 y.2))) ∧
  (@Eq Int (RS.err (numS y.1 y.2)) (RS.err (flagS y.1 y.2))) ∧
  True)) ∧
  (
  ((ieq (RS.err (numS y.1 y.2)) (0 : Int)) = false) →
  (@Eq Bool Bool.false (flagR y.1 y.2)) ∧
  Rfs (([y.1] : List (List UInt8))) (
  (@Eq Int (RS.at_ (numS y.1 y.2)) (RS.at_ (flagS y.1 y.2))) ∧
  (@Eq Int (RS.err (numS y.1 y.2)) (RS.err (flagS y.1 y.2))) ∧
  True)))))
theorem flagRV_eq : ∀ y, flagRVC y = flagRV y := fun y => by kernel_rfl
def rflagRVC (y : Prod (List UInt8) RS) : Prop :=
 (Iv (RdOk (y.1, RS.mk (RS.at_ y.2) (RS.err y.2)))) ∧
 Rfs (([y.1] : List (List UInt8))) (
  Rfs (([RS.at_ y.2, RS.err y.2] : List Int)) (
  (
  ((ieq (RS.err (numS y.1 y.2)) (0 : Int)) = true) →
  (
  ((ilt (1 : Int) (numR y.1 y.2)) = true) →
  (@Eq Bool Bool.false (flagR y.1 y.2)) ∧
  Rfs (([y.1] : List (List UInt8))) (
  (@Eq Int (RS.at_ y.2) (RS.at_ (flagS y.1 y.2))) ∧
  (@Eq Int (4 : Int) (RS.err (flagS y.1 y.2))) ∧
  True)) ∧
  (
  ((ilt (1 : Int) (numR y.1 y.2)) = false) →
  (@Eq Bool (ieq (numR y.1 y.2) (1 : Int)) (flagR y.1 y.2)) ∧
  Rfs (([y.1] : List (List UInt8))) (
  (@Eq Int (RS.at_ (numS y.1 y.2)) (RS.at_ (flagS y.1 y.2))) ∧
  (@Eq Int (RS.err (numS y.1 y.2)) (RS.err (flagS y.1 y.2))) ∧
  True))) ∧
  (
  ((ieq (RS.err (numS y.1 y.2)) (0 : Int)) = false) →
  (@Eq Bool (ieq (numR y.1 y.2) (1 : Int)) (flagR y.1 y.2)) ∧
  Rfs (([y.1] : List (List UInt8))) (
  (@Eq Int (RS.at_ (numS y.1 y.2)) (RS.at_ (flagS y.1 y.2))) ∧
  (@Eq Int (RS.err (numS y.1 y.2)) (RS.err (flagS y.1 y.2))) ∧
  True))))
theorem rflagRV_eq : ∀ y, rflagRVC y = rflagRV y := fun y => by kernel_rfl
def uptoRVC (y : Prod (Prod (List UInt8) RS) Int) : Prop :=
 (Iv (RdOk (y.1.1, RS.mk (RS.at_ y.1.2) (RS.err y.1.2)))) ∧
 Rfs (([y.1.1] : List (List UInt8))) (
  Rfs (([RS.at_ y.1.2, RS.err y.1.2] : List Int)) (
  (
  ((ieq (RS.err (numS y.1.1 y.1.2)) (0 : Int)) = true) →
  (
  ((ilt y.2 (numR y.1.1 y.1.2)) = true) →
  (Iv True) ∧
  Rfs (([RS.at_ y.1.2, (2 : Int)] : List Int)) (
  Rfs (([y.1.1] : List (List UInt8))) (
  Rfs (([RS.at_ (numS y.1.1 y.1.2), RS.err (numS y.1.1 y.1.2)] : List Int)) (
  (@Eq Int (0 : Int) (uptoR y.1.1 y.1.2 y.2)) ∧
  Rfs (([y.1.1] : List (List UInt8))) (
  (@Eq Int (RS.at_ y.1.2) (RS.at_ (uptoS y.1.1 y.1.2 y.2))) ∧
  (@Eq Int (2 : Int) (RS.err (uptoS y.1.1 y.1.2 y.2))) ∧
  True))))) ∧
  (
  ((ilt y.2 (numR y.1.1 y.1.2)) = false) →
  (@Eq Int (numR y.1.1 y.1.2) (uptoR y.1.1 y.1.2 y.2)) ∧
  Rfs (([y.1.1] : List (List UInt8))) (
  (@Eq Int (RS.at_ (numS y.1.1 y.1.2)) (RS.at_ (uptoS y.1.1 y.1.2 y.2))) ∧
  (@Eq Int (RS.err (numS y.1.1 y.1.2)) (RS.err (uptoS y.1.1 y.1.2 y.2))) ∧
  True))) ∧
  (
  ((ieq (RS.err (numS y.1.1 y.1.2)) (0 : Int)) = false) →
  (@Eq Int (numR y.1.1 y.1.2) (uptoR y.1.1 y.1.2 y.2)) ∧
  Rfs (([y.1.1] : List (List UInt8))) (
  (@Eq Int (RS.at_ (numS y.1.1 y.1.2)) (RS.at_ (uptoS y.1.1 y.1.2 y.2))) ∧
  (@Eq Int (RS.err (numS y.1.1 y.1.2)) (RS.err (uptoS y.1.1 y.1.2 y.2))) ∧
  True))))
theorem uptoRV_eq : ∀ y, uptoRVC y = uptoRV y := fun y => by kernel_rfl
def ruptoRVC (y : Prod (Prod (List UInt8) RS) Int) : Prop :=
 (Iv (RdOk (y.1.1, RS.mk (RS.at_ y.1.2) (RS.err y.1.2)))) ∧
 Rfs (([y.1.1] : List (List UInt8))) (
  Rfs (([RS.at_ y.1.2, RS.err y.1.2] : List Int)) (
  (
  ((ieq (RS.err (numS y.1.1 y.1.2)) (0 : Int)) = true) →
  (
  ((ilt y.2 (numR y.1.1 y.1.2)) = true) →
  (@Eq Int (0 : Int) (uptoR y.1.1 y.1.2 y.2)) ∧
  Rfs (([y.1.1] : List (List UInt8))) (
  (@Eq Int (RS.at_ y.1.2) (RS.at_ (uptoS y.1.1 y.1.2 y.2))) ∧
  (@Eq Int (2 : Int) (RS.err (uptoS y.1.1 y.1.2 y.2))) ∧
  True)) ∧
  (
  ((ilt y.2 (numR y.1.1 y.1.2)) = false) →
  (@Eq Int (numR y.1.1 y.1.2) (uptoR y.1.1 y.1.2 y.2)) ∧
  Rfs (([y.1.1] : List (List UInt8))) (
  (@Eq Int (RS.at_ (numS y.1.1 y.1.2)) (RS.at_ (uptoS y.1.1 y.1.2 y.2))) ∧
  (@Eq Int (RS.err (numS y.1.1 y.1.2)) (RS.err (uptoS y.1.1 y.1.2 y.2))) ∧
  True))) ∧
  (
  ((ieq (RS.err (numS y.1.1 y.1.2)) (0 : Int)) = false) →
  (@Eq Int (numR y.1.1 y.1.2) (uptoR y.1.1 y.1.2 y.2)) ∧
  Rfs (([y.1.1] : List (List UInt8))) (
  (@Eq Int (RS.at_ (numS y.1.1 y.1.2)) (RS.at_ (uptoS y.1.1 y.1.2 y.2))) ∧
  (@Eq Int (RS.err (numS y.1.1 y.1.2)) (RS.err (uptoS y.1.1 y.1.2 y.2))) ∧
  True))))
theorem ruptoRV_eq : ∀ y, ruptoRVC y = ruptoRV y := fun y => by kernel_rfl
def textRVC (y : Prod (Prod (List UInt8) RS) Int) : Prop :=
 (Iv (RdOk (y.1.1, RS.mk (RS.at_ y.1.2) (RS.err y.1.2)))) ∧
 Rfs (([y.2] : List Int)) (
  Rfs (([y.1.1] : List (List UInt8))) (
  Rfs (([RS.at_ y.1.2, RS.err y.1.2] : List Int)) (
  (
  ((Bool.not (ieq (RS.err (uptoS y.1.1 y.1.2 y.2)) (0 : Int))) = true) →
  (@Eq (List UInt8) ([] : List UInt8) (textR y.1.1 y.1.2 y.2)) ∧
  Rfs (([y.1.1] : List (List UInt8))) (
  (@Eq Int (RS.at_ (uptoS y.1.1 y.1.2 y.2)) (RS.at_ (textS y.1.1 y.1.2 y.2))) ∧
  (@Eq Int (RS.err (uptoS y.1.1 y.1.2 y.2)) (RS.err (textS y.1.1 y.1.2 y.2))) ∧
  True)) ∧
  (
  ((Bool.not (ieq (RS.err (uptoS y.1.1 y.1.2 y.2)) (0 : Int))) = false) →
  Rfs (([y.1.1] : List (List UInt8))) (
  Rfs (([RS.at_ (uptoS y.1.1 y.1.2 y.2)] : List Int)) (
  (
  ((ilt (isub IntKind.i64 (llen y.1.1) (RS.at_ (uptoS y.1.1 y.1.2 y.2))) (uptoR y.1.1 y.1.2 y.2)) = true) →
  (Iv True) ∧
  Rfs (([RS.at_ y.1.2, (3 : Int)] : List Int)) (
  Rfs (([y.1.1] : List (List UInt8))) (
  Rfs (([RS.at_ (uptoS y.1.1 y.1.2 y.2), RS.err (uptoS y.1.1 y.1.2 y.2)] : List Int)) (
  (@Eq (List UInt8) ([] : List UInt8) (textR y.1.1 y.1.2 y.2)) ∧
  Rfs (([y.1.1] : List (List UInt8))) (
  (@Eq Int (RS.at_ y.1.2) (RS.at_ (textS y.1.1 y.1.2 y.2))) ∧
  (@Eq Int (3 : Int) (RS.err (textS y.1.1 y.1.2 y.2))) ∧
  True))))) ∧
  (
  ((ilt (isub IntKind.i64 (llen y.1.1) (RS.at_ (uptoS y.1.1 y.1.2 y.2))) (uptoR y.1.1 y.1.2 y.2)) = false) →
  ((ile (0 : Int) (iadd IntKind.i64 (RS.at_ (uptoS y.1.1 y.1.2 y.2)) (uptoR y.1.1 y.1.2 y.2))) = true) ∧
  ((ile (iadd IntKind.i64 (RS.at_ (uptoS y.1.1 y.1.2 y.2)) (uptoR y.1.1 y.1.2 y.2)) (llen y.1.1)) = true) ∧
  ((ile (0 : Int) (RS.at_ (uptoS y.1.1 y.1.2 y.2))) = true) ∧
  ((ile (RS.at_ (uptoS y.1.1 y.1.2 y.2)) (llen (ltake y.1.1 (iadd IntKind.i64 (RS.at_ (uptoS y.1.1 y.1.2 y.2)) (uptoR y.1.1 y.1.2 y.2))))) = true) ∧
  Rfs (([y.1.1] : List (List UInt8))) (
  Rfs (([RS.at_ (uptoS y.1.1 y.1.2 y.2), RS.at_ (uptoS y.1.1 y.1.2 y.2)] : List Int)) (
  Rfs (([ldrop (ltake y.1.1 (iadd IntKind.i64 (RS.at_ (uptoS y.1.1 y.1.2 y.2)) (uptoR y.1.1 y.1.2 y.2))) (RS.at_ (uptoS y.1.1 y.1.2 y.2))] : List (List UInt8))) (
  (@Eq (List UInt8) (ldrop (ltake y.1.1 (iadd IntKind.i64 (RS.at_ (uptoS y.1.1 y.1.2 y.2)) (uptoR y.1.1 y.1.2 y.2))) (RS.at_ (uptoS y.1.1 y.1.2 y.2))) (textR y.1.1 y.1.2 y.2)) ∧
  Rfs (([y.1.1] : List (List UInt8))) (
  (@Eq Int (iadd IntKind.i64 (RS.at_ (uptoS y.1.1 y.1.2 y.2)) (uptoR y.1.1 y.1.2 y.2)) (RS.at_ (textS y.1.1 y.1.2 y.2))) ∧
  (@Eq Int (RS.err (uptoS y.1.1 y.1.2 y.2)) (RS.err (textS y.1.1 y.1.2 y.2))) ∧
  True)))))))))))
theorem textRV_eq : ∀ y, textRVC y = textRV y := fun y => by kernel_rfl
def rtextRVC (y : Prod (Prod (List UInt8) RS) Int) : Prop :=
 (Iv (RdOk (y.1.1, RS.mk (RS.at_ y.1.2) (RS.err y.1.2)))) ∧
 Rfs (([y.2] : List Int)) (
  Rfs (([y.1.1] : List (List UInt8))) (
  Rfs (([RS.at_ y.1.2, RS.err y.1.2] : List Int)) (
  (
  ((ieq (RS.err (uptoS y.1.1 y.1.2 y.2)) (0 : Int)) = true) →
  Rfs (([RS.err (uptoS y.1.1 y.1.2 y.2)] : List Int)) (
  Rfs (([y.1.1] : List (List UInt8))) (
  Rfs (([RS.at_ (uptoS y.1.1 y.1.2 y.2)] : List Int)) (
  (
  ((ilt (isub IntKind.i64 (llen y.1.1) (RS.at_ (uptoS y.1.1 y.1.2 y.2))) (uptoR y.1.1 y.1.2 y.2)) = true) →
  (@Eq (List UInt8) ([] : List UInt8) (textR y.1.1 y.1.2 y.2)) ∧
  Rfs (([y.1.1] : List (List UInt8))) (
  (@Eq Int (RS.at_ y.1.2) (RS.at_ (textS y.1.1 y.1.2 y.2))) ∧
  (@Eq Int (3 : Int) (RS.err (textS y.1.1 y.1.2 y.2))) ∧
  True)) ∧
  (
  ((ilt (isub IntKind.i64 (llen y.1.1) (RS.at_ (uptoS y.1.1 y.1.2 y.2))) (uptoR y.1.1 y.1.2 y.2)) = false) →
  (
  ((Bool.not (ieq (RS.err (uptoS y.1.1 y.1.2 y.2)) (0 : Int))) = true) →
  (@Eq (List UInt8) ([] : List UInt8) (textR y.1.1 y.1.2 y.2)) ∧
  Rfs (([y.1.1] : List (List UInt8))) (
  (@Eq Int (RS.at_ (uptoS y.1.1 y.1.2 y.2)) (RS.at_ (textS y.1.1 y.1.2 y.2))) ∧
  (@Eq Int (RS.err (uptoS y.1.1 y.1.2 y.2)) (RS.err (textS y.1.1 y.1.2 y.2))) ∧
  True)) ∧
  (
  ((Bool.not (ieq (RS.err (uptoS y.1.1 y.1.2 y.2)) (0 : Int))) = false) →
  ((ile (0 : Int) (iadd IntKind.i64 (RS.at_ (uptoS y.1.1 y.1.2 y.2)) (uptoR y.1.1 y.1.2 y.2))) = true) ∧
  ((ile (iadd IntKind.i64 (RS.at_ (uptoS y.1.1 y.1.2 y.2)) (uptoR y.1.1 y.1.2 y.2)) (llen y.1.1)) = true) ∧
  ((ile (0 : Int) (RS.at_ (uptoS y.1.1 y.1.2 y.2))) = true) ∧
  ((ile (RS.at_ (uptoS y.1.1 y.1.2 y.2)) (llen (ltake y.1.1 (iadd IntKind.i64 (RS.at_ (uptoS y.1.1 y.1.2 y.2)) (uptoR y.1.1 y.1.2 y.2))))) = true) ∧
  Rfs (([y.1.1] : List (List UInt8))) (
  Rfs (([RS.at_ (uptoS y.1.1 y.1.2 y.2), RS.at_ (uptoS y.1.1 y.1.2 y.2)] : List Int)) (
  Rfs (([ldrop (ltake y.1.1 (iadd IntKind.i64 (RS.at_ (uptoS y.1.1 y.1.2 y.2)) (uptoR y.1.1 y.1.2 y.2))) (RS.at_ (uptoS y.1.1 y.1.2 y.2))] : List (List UInt8))) (
  (@Eq (List UInt8) (ldrop (ltake y.1.1 (iadd IntKind.i64 (RS.at_ (uptoS y.1.1 y.1.2 y.2)) (uptoR y.1.1 y.1.2 y.2))) (RS.at_ (uptoS y.1.1 y.1.2 y.2))) (textR y.1.1 y.1.2 y.2)) ∧
  Rfs (([y.1.1] : List (List UInt8))) (
  (@Eq Int (iadd IntKind.i64 (RS.at_ (uptoS y.1.1 y.1.2 y.2)) (uptoR y.1.1 y.1.2 y.2)) (RS.at_ (textS y.1.1 y.1.2 y.2))) ∧
  (@Eq Int (RS.err (uptoS y.1.1 y.1.2 y.2)) (RS.err (textS y.1.1 y.1.2 y.2))) ∧
  True)))))))))) ∧
  (
  ((ieq (RS.err (uptoS y.1.1 y.1.2 y.2)) (0 : Int)) = false) →
  Rfs (([RS.err (uptoS y.1.1 y.1.2 y.2)] : List Int)) (
  (
  ((Bool.not (ieq (RS.err (uptoS y.1.1 y.1.2 y.2)) (0 : Int))) = true) →
  (@Eq (List UInt8) ([] : List UInt8) (textR y.1.1 y.1.2 y.2)) ∧
  Rfs (([y.1.1] : List (List UInt8))) (
  (@Eq Int (RS.at_ (uptoS y.1.1 y.1.2 y.2)) (RS.at_ (textS y.1.1 y.1.2 y.2))) ∧
  (@Eq Int (RS.err (uptoS y.1.1 y.1.2 y.2)) (RS.err (textS y.1.1 y.1.2 y.2))) ∧
  True)) ∧
  (
  ((Bool.not (ieq (RS.err (uptoS y.1.1 y.1.2 y.2)) (0 : Int))) = false) →
  ((ile (0 : Int) (iadd IntKind.i64 (RS.at_ (uptoS y.1.1 y.1.2 y.2)) (uptoR y.1.1 y.1.2 y.2))) = true) ∧
  ((ile (iadd IntKind.i64 (RS.at_ (uptoS y.1.1 y.1.2 y.2)) (uptoR y.1.1 y.1.2 y.2)) (llen y.1.1)) = true) ∧
  ((ile (0 : Int) (RS.at_ (uptoS y.1.1 y.1.2 y.2))) = true) ∧
  ((ile (RS.at_ (uptoS y.1.1 y.1.2 y.2)) (llen (ltake y.1.1 (iadd IntKind.i64 (RS.at_ (uptoS y.1.1 y.1.2 y.2)) (uptoR y.1.1 y.1.2 y.2))))) = true) ∧
  Rfs (([y.1.1] : List (List UInt8))) (
  Rfs (([RS.at_ (uptoS y.1.1 y.1.2 y.2), RS.at_ (uptoS y.1.1 y.1.2 y.2)] : List Int)) (
  Rfs (([ldrop (ltake y.1.1 (iadd IntKind.i64 (RS.at_ (uptoS y.1.1 y.1.2 y.2)) (uptoR y.1.1 y.1.2 y.2))) (RS.at_ (uptoS y.1.1 y.1.2 y.2))] : List (List UInt8))) (
  (@Eq (List UInt8) (ldrop (ltake y.1.1 (iadd IntKind.i64 (RS.at_ (uptoS y.1.1 y.1.2 y.2)) (uptoR y.1.1 y.1.2 y.2))) (RS.at_ (uptoS y.1.1 y.1.2 y.2))) (textR y.1.1 y.1.2 y.2)) ∧
  Rfs (([y.1.1] : List (List UInt8))) (
  (@Eq Int (iadd IntKind.i64 (RS.at_ (uptoS y.1.1 y.1.2 y.2)) (uptoR y.1.1 y.1.2 y.2)) (RS.at_ (textS y.1.1 y.1.2 y.2))) ∧
  (@Eq Int (RS.err (uptoS y.1.1 y.1.2 y.2)) (RS.err (textS y.1.1 y.1.2 y.2))) ∧
  True))))))))))
theorem rtextRV_eq : ∀ y, rtextRVC y = rtextRV y := fun y => by kernel_rfl
def atRVC (y : Prod (List UInt8) RS) : Prop :=
 Rfs (([RS.at_ y.2] : List Int)) (
  Rfs (([y.1] : List (List UInt8))) (
  Rfs (([RS.at_ y.2, RS.err y.2] : List Int)) (
  True)))
theorem atRV_eq : ∀ y, atRVC y = atRV y := fun y => by kernel_rfl
def errRVC (y : Prod (List UInt8) RS) : Prop :=
 Rfs (([RS.err y.2] : List Int)) (
  Rfs (([y.1] : List (List UInt8))) (
  Rfs (([RS.at_ y.2, RS.err y.2] : List Int)) (
  True)))
theorem errRV_eq : ∀ y, errRVC y = errRV y := fun y => by kernel_rfl
end Go.Proofs.YtacolbfofamocaaGreat.sx
/- Readers' flags, bounded numbers, texts: the contracts hold. -/
namespace Go.Proofs.YtacolbfofamocaaGreat.sx
open Go Go.RowKit
set_option maxRecDepth 100000
/-- a number that was read: the reader still stands in its bytes -/
theorem numS_ok {l : By} {s : RS} (h : RdOk (l, s)) : RdOk (l, numS l s) ∧ 0 ≤ numR l s ∧ numR l s ≤ 9223372036854775807 ∧ ((numS l s).err ≠ 0 → numR l s = 0) := by
  obtain ⟨h1, h2, h3⟩ : 0 ≤ s.at_ ∧ s.at_ ≤ l.length ∧ l.length ≤ 1073741824 := h
  unfold numS numR RdOk numB
  split
  · exact ⟨⟨h1, h2, h3⟩, by simp, by simp, fun _ => rfl⟩
  split
  · exact ⟨⟨h1, h2, h3⟩, by simp, by simp, fun _ => rfl⟩
  split
  · exact ⟨⟨h1, h2, h3⟩, by simp, by simp, fun _ => rfl⟩
  split
  · exact ⟨⟨h1, h2, h3⟩, by simp, by simp, fun _ => rfl⟩
  split
  · exact ⟨⟨h1, h2, h3⟩, by simp, by simp, fun _ => rfl⟩
  · rename_i h4 h5
    unfold badN at h5
    refine ⟨⟨?_, ?_, h3⟩, ?_, ?_, fun h => (h rfl).elim⟩ <;> simp only <;> omega
theorem uptoS_ok {l : By} {s : RS} {m : Int} (h : RdOk (l, s)) : RdOk (l, uptoS l s m) ∧ 0 ≤ uptoR l s m ∧ uptoR l s m ≤ 9223372036854775807 ∧ ((uptoS l s m).err ≠ 0 → uptoR l s m = 0) ∧ (uptoR l s m ≤ max m 0) := by
  obtain ⟨h1, h2, h3, h4⟩ := numS_ok h
  unfold uptoS uptoR uptoB
  split
  · exact ⟨h, by simp, by simp, fun _ => rfl, by simp; omega⟩
  · rename_i h5
    refine ⟨h1, h2, h3, h4, ?_⟩
    simp only
    by_cases h6 : (numS l s).err = 0
    · have : ¬ m < numR l s := fun h7 => h5 ⟨h6, h7⟩
      omega
    · have := h4 h6; omega

theorem flagRH (y : By × RS) (hy : flagRC.pre y) : flagRVC y := by
  obtain ⟨l, s⟩ := y
  have ha : RdOk (l, s) := hy
  obtain ⟨h1, h2, h3, h4⟩ := numS_ok ha
  unfold flagRVC
  simp only [Rfs_eq, and_true, ieq_t, ieq_f, ilt_t, ilt_f]
  refine ⟨⟨ha⟩, ?_⟩
  repeat' first
    | exact ⟨trivial⟩
    | exact And.intro rfl rfl
    | (intro _)
    | (refine And.intro ?_ ?_)
  all_goals (try unfold flagR); (try unfold flagS); unfold flagB; split
  all_goals first
    | rfl
    | (exfalso; omega)
    | (simp_all [ieq]; done)
    | (simp_all [ieq]; omega)
theorem flagROk : Ok flagRC := okOf (tab := [numRC, wrongC]) (fn := Tryz.f32) (orc := flagRO) (by simp; exact ⟨numROk, wrongOk⟩) (by kernel_rfl) (by kernel_rfl) (fun _ => by exact Nat.le_of_ble_eq_true (by kernel_rfl)) fun y hy => Eq.mp (flagRV_eq y) (flagRH y hy)
theorem rflagRH (y : By × RS) (hy : rflagRC.pre y) : rflagRVC y := by
  obtain ⟨l, s⟩ := y
  have ha : RdOk (l, s) := hy
  obtain ⟨h1, h2, h3, h4⟩ := numS_ok ha
  unfold rflagRVC
  simp only [Rfs_eq, and_true, ieq_t, ieq_f, ilt_t, ilt_f]
  refine ⟨⟨ha⟩, ?_⟩
  repeat' first
    | exact ⟨trivial⟩
    | exact And.intro rfl rfl
    | (intro _)
    | (refine And.intro ?_ ?_)
  all_goals (try unfold flagR); (try unfold flagS); unfold flagB; split
  all_goals first
    | rfl
    | (exfalso; omega)
    | (simp_all [ieq]; done)
    | (simp_all [ieq]; omega)
theorem rflagROk : Ok rflagRC := okOf (tab := [rnumRC]) (fn := Tryz.f36) (orc := rflagRO) (by simp; exact rnumROk) (by kernel_rfl) (by kernel_rfl) (fun _ => by exact Nat.le_of_ble_eq_true (by kernel_rfl)) fun y hy => Eq.mp (rflagRV_eq y) (rflagRH y hy)
theorem uptoRH (y : (By × RS) × Int) (hy : uptoRC.pre y) : uptoRVC y := by
  obtain ⟨⟨l, s⟩, m⟩ := y
  have ha : RdOk (l, s) := hy
  unfold uptoRVC
  simp only [Rfs_eq, and_true, ieq_t, ieq_f, ilt_t, ilt_f]
  refine ⟨⟨ha⟩, ?_⟩
  repeat' first
    | exact ⟨trivial⟩
    | (intro _)
    | (refine And.intro ?_ ?_)
  all_goals (try unfold uptoR); (try unfold uptoS); unfold uptoB; split
  all_goals first
    | rfl
    | (exfalso; omega)
    | (simp_all; done)
theorem uptoROk : Ok uptoRC := okOf (tab := [numRC, wrongC]) (fn := Tryz.f96) (orc := uptoRO) (by simp; exact ⟨numROk, wrongOk⟩) (by kernel_rfl) (by kernel_rfl) (fun _ => by exact Nat.le_of_ble_eq_true (by kernel_rfl)) fun y hy => Eq.mp (uptoRV_eq y) (uptoRH y hy)
theorem ruptoRH (y : (By × RS) × Int) (hy : ruptoRC.pre y) : ruptoRVC y := by
  obtain ⟨⟨l, s⟩, m⟩ := y
  have ha : RdOk (l, s) := hy
  unfold ruptoRVC
  simp only [Rfs_eq, and_true, ieq_t, ieq_f, ilt_t, ilt_f]
  refine ⟨⟨ha⟩, ?_⟩
  repeat' first
    | exact ⟨trivial⟩
    | (intro _)
    | (refine And.intro ?_ ?_)
  all_goals (try unfold uptoR); (try unfold uptoS); unfold uptoB; split
  all_goals first
    | rfl
    | (exfalso; omega)
    | (simp_all; done)
theorem ruptoROk : Ok ruptoRC := okOf (tab := [rnumRC]) (fn := Tryz.f97) (orc := ruptoRO) (by simp; exact rnumROk) (by kernel_rfl) (by kernel_rfl) (fun _ => by exact Nat.le_of_ble_eq_true (by kernel_rfl)) fun y hy => Eq.mp (ruptoRV_eq y) (ruptoRH y hy)
theorem textRH (y : (By × RS) × Int) (hy : textRC.pre y) : textRVC y := by
  obtain ⟨⟨l, s⟩, m⟩ := y
  have ha : RdOk (l, s) := hy
  obtain ⟨⟨g1, g2, g3⟩, h2, h3, h4, _⟩ := uptoS_ok (m := m) ha
  simp only at g1 g2 g3
  unfold textRVC
  have hs : isub IntKind.i64 (l.length : Int) (uptoS l s m).at_ = (l.length : Int) - (uptoS l s m).at_ := isub64 (by omega) (by omega)
  simp only [Rfs_eq, and_true, ieq_t, ieq_f, ilt_t, ilt_f, ile_t, llen_eq, hs, Bool.not_eq_true', Bool.not_eq_false']
  have hq : uptoR l s m ≤ (l.length : Int) - (uptoS l s m).at_ → iadd IntKind.i64 (uptoS l s m).at_ (uptoR l s m) = (uptoS l s m).at_ + uptoR l s m := fun _ => iadd64 (by omega) (by omega)
  have ht : uptoR l s m ≤ (l.length : Int) - (uptoS l s m).at_ → ((ltake l ((uptoS l s m).at_ + uptoR l s m)).length : Int) = (uptoS l s m).at_ + uptoR l s m := fun _ => by unfold ltake; rw [List.length_take]; omega
  refine ⟨⟨ha⟩, ?_⟩
  repeat' first
    | exact ⟨trivial⟩
    | (intro _)
    | (refine And.intro ?_ ?_)
  all_goals (try rw [hq (by omega)])
  all_goals first
    | omega
    | ((try unfold textR); (try unfold textS); unfold textB; repeat' split
       all_goals first
         | rfl
         | (exfalso; omega)
         | (simp_all; done))
    | (rw [ht (by omega)]; omega)
theorem textROk : Ok textRC := okOf (tab := [uptoRC, wrongC]) (fn := Tryz.f65) (orc := textRO) (by simp; exact ⟨uptoROk, wrongOk⟩) (by kernel_rfl) (by kernel_rfl) (fun _ => by exact Nat.le_of_ble_eq_true (by kernel_rfl)) fun y hy => Eq.mp (textRV_eq y) (textRH y hy)
theorem rtextRH (y : (By × RS) × Int) (hy : rtextRC.pre y) : rtextRVC y := by
  obtain ⟨⟨l, s⟩, m⟩ := y
  have ha : RdOk (l, s) := hy
  obtain ⟨⟨g1, g2, g3⟩, h2, h3, h4, _⟩ := uptoS_ok (m := m) ha
  simp only at g1 g2 g3
  unfold rtextRVC
  have hs : isub IntKind.i64 (l.length : Int) (uptoS l s m).at_ = (l.length : Int) - (uptoS l s m).at_ := isub64 (by omega) (by omega)
  simp only [Rfs_eq, and_true, ieq_t, ieq_f, ilt_t, ilt_f, ile_t, llen_eq, hs, Bool.not_eq_true', Bool.not_eq_false']
  have hq : uptoR l s m ≤ (l.length : Int) - (uptoS l s m).at_ → iadd IntKind.i64 (uptoS l s m).at_ (uptoR l s m) = (uptoS l s m).at_ + uptoR l s m := fun _ => iadd64 (by omega) (by omega)
  have ht : uptoR l s m ≤ (l.length : Int) - (uptoS l s m).at_ → ((ltake l ((uptoS l s m).at_ + uptoR l s m)).length : Int) = (uptoS l s m).at_ + uptoR l s m := fun _ => by unfold ltake; rw [List.length_take]; omega
  refine ⟨⟨ha⟩, ?_⟩
  repeat' first
    | exact ⟨trivial⟩
    | (intro _)
    | (refine And.intro ?_ ?_)
  all_goals (try rw [hq (by omega)])
  all_goals first
    | omega
    | ((try unfold textR); (try unfold textS); unfold textB; repeat' split
       all_goals first
         | rfl
         | (exfalso; omega)
         | (simp_all; done))
    | (rw [ht (by omega)]; omega)
theorem rtextROk : Ok rtextRC := okOf (tab := [ruptoRC]) (fn := Tryz.f68) (orc := rtextRO) (by simp; exact ruptoROk) (by kernel_rfl) (by kernel_rfl) (fun _ => by exact Nat.le_of_ble_eq_true (by kernel_rfl)) fun y hy => Eq.mp (rtextRV_eq y) (rtextRH y hy)
theorem atRH (y : By × RS) (_hy : atRC.pre y) : atRVC y := by
  unfold atRVC
  simp only [Rfs_eq]
theorem atROk : Ok atRC := okOf (tab := []) (fn := Tryz.f15) (orc := atRO) (by simp) (by kernel_rfl) (by kernel_rfl) (fun _ => by exact Nat.le_of_ble_eq_true (by kernel_rfl)) fun y hy => Eq.mp (atRV_eq y) (atRH y hy)
theorem errRH (y : By × RS) (_hy : errRC.pre y) : errRVC y := by
  unfold errRVC
  simp only [Rfs_eq]
theorem errROk : Ok errRC := okOf (tab := []) (fn := Tryz.f16) (orc := errRO) (by simp) (by kernel_rfl) (by kernel_rfl) (fun _ => by exact Nat.le_of_ble_eq_true (by kernel_rfl)) fun y hy => Eq.mp (errRV_eq y) (errRH y hy)
end Go.Proofs.YtacolbfofamocaaGreat.sx
