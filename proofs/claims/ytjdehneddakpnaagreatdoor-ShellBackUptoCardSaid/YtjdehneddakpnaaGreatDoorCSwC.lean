/- The statements: their contracts hold. -/
import Derived.Test.YtjdehneddakpnaaGreatDoorCSwA
import Derived.Lib.ItoaLen
set_option linter.all false
namespace Go.Proofs.YtjdehneddakpnaaGreatDoor.sx
open Go Go.RowKit
noncomputable section
def inSv (args : List (AV D.E)) (s : St D.E) : C Sv := match args with
  | [x] => bnd (asAgg x) fun l => match l with
    | [k, n, a, b, d, r, c] => bnd2 (asI k) fun _ k => bnd2 (asI n) fun _ n => bnd (asStr a) fun a => bnd (asStr b) fun b => bnd (rowsOf D s 0 d) fun d => bnd (rowsOf D s 2 r) fun r => bnd (asStr c) fun c => .ret ⟨k, n, a, b, (d : By), (r : List Pat), c⟩
    | _ => .fail
  | _ => .fail
def inSv2 (args : List (AV D.E)) (s : St D.E) : C (Sv × Sv) := match args with
  | [x, y] => bnd (inSv [x] s) fun a => bnd (inSv [y] s) fun b => .ret (a, b)
  | _ => .fail
def inPP (args : List (AV D.E)) (s : St D.E) : C (List Pat × List Pat) := match args with
  | [a, b] => bnd (rowsOf D s 2 a) fun l => bnd (rowsOf D s 2 b) fun m => .ret ((l : List Pat), (m : List Pat))
  | _ => .fail
def shoC : Con D := con0 45 By (fun a _ => inS a) (fun y => y.length ≤ 1000000) (fun y => [.str y]) fun y => .str (shownF y)
def shoO (y : shoC.Y) : Orc D := ⟨[], [], [(58, { X := Nat, keep := [0, 8], sl := fun i => [(3, .grow 0 (34 :: escs (y.take i) : By) 0), (9, .int .i64 i)], kp := [], pc := fun _ => [(0, .tok 0 5)], nx := 1, inv := fun i => i ≤ y.length, me := fun i => y.length - i })], [], 1, []⟩
def shoV (y : shoC.Y) : Prop := vc [] Tryz.f45 shoC shoO y
def rqtC : Con D := con0 27 By (fun a _ => inS a) (fun y => y.length ≤ 1000000000000000) (fun y => [.str y]) fun y => .str (shownF y)
def rqtO (y : rqtC.Y) : Orc D := ⟨[], [], [(58, { X := Nat, keep := [0], sl := fun i => [(3, .str (34 :: escs (y.take i))), (4, .int .i64 i)], kp := [], pc := fun _ => [], nx := 0, inv := fun i => i ≤ y.length, me := fun i => y.length - i })], [], 1, []⟩
def rqtV (y : rqtC.Y) : Prop := vc [] Tryz.f27 rqtC rqtO y
/-- rules as they are written, the first i -/
def ruls (y : Sv) (i : Nat) : By := kLoad ++ (y.rules.take i).flatMap ruleF
def wriC : Con D := con0 25 Sv inSv (fun y => bulkS y ≤ 2000 ∧ y.rules.length ≤ 1000000000000) (fun y => [.agg (svL y)]) fun y => .str (writF y)
def wriO (y : wriC.Y) : Orc D := ⟨[(0, .fact 0)], [], [(452984810, { X := Nat, keep := [1, 68, 69], sl := fun i => [(3, .str (ruls y i)), (70, .int .i64 i)], kp := [0], pc := fun _ => [], nx := 1, inv := fun i => i ≤ y.rules.length, me := fun i => y.rules.length - i })], [], 1, []⟩
def wriV (y : wriC.Y) : Prop := vc [shoC, itoC] Tryz.f25 wriC wriO y
def eqpC : Con D := con0 46 (List Pat × List Pat) inPP (fun _ => True) (fun y => [.list 2 y.1, .list 2 y.2]) fun y => .bool (decide (y.1 = y.2))
def eqpO (y : eqpC.Y) : Orc D := ⟨[(0, .fact 0)], [], [(58, { X := Nat, keep := [0, 1, 12], sl := fun x => [(13, .int .i64 x)], kp := [], pc := fun _ => [], nx := 0, inv := fun x => x ≤ y.1.length ∧ y.1.take x = y.2.take x, me := fun x => y.1.length - x })], [], 1, []⟩
def eqpV (y : eqpC.Y) : Prop := vc [] Tryz.f46 eqpC eqpO y
def samC : Con D := con0 26 (Sv × Sv) inSv2 (fun _ => True) (fun y => [.agg (svL y.1), .agg (svL y.2)]) fun y => .bool (sameF y.1 y.2)
def samV (y : samC.Y) : Prop := vc [eqpC] Tryz.f26 samC noO y
/-- the bounds of a step that lines are asked for -/
def midS (y : Sv) : Prop := bulkS y ≤ 2000000 ∧ y.rules.length ≤ 2000000
def baseS (s : Sv) : Nat := s.name.length + s.to.length + s.data.length + s.cont.length
def patsN (l : List Pat) : Nat := (l.map fun p => p.1.length + p.2.length).sum
def linC : Con D := con0 13 Sv inSv midS (fun y => [.agg (svL y)]) fun y => .str (lineF y)
def linO (y : linC.Y) : Orc D := ⟨[], [], [(58, { X := Nat, keep := [1, 27, 28], sl := fun i => [(3, .int .i64 (baseS y + patsN (y.rules.take i) : Nat)), (29, .int .i64 i)], kp := [0], pc := fun _ => [], nx := 1, inv := fun i => i ≤ y.rules.length, me := fun i => y.rules.length - i })],
  [(7, { X := Int, keep := [1], sl := fun z => [(3, .int .i64 z)], kp := [0], pc := fun _ => [], nx := 1, inv := fun z => (2000 < z ∧ 2000 < bulkS y) ∨ z = bulkS y, me := fun _ => 0 })], 1, []⟩
def linV (y : linC.Y) : Prop := vc [wriC, parC, samC] Tryz.f13 linC linO y
def rliC : Con D := { linC with f := 14 }
def rliO (y : rliC.Y) : Orc D := ⟨[(0, .fact 0)], [], [(989855722, { X := Nat, keep := [1], sl := fun i => [(3, .str (ruls y i)), (4, .int .i64 i)], kp := [0], pc := fun _ => [], nx := 1, inv := fun i => i ≤ y.rules.length, me := fun i => y.rules.length - i }),
  (506, { X := Nat, keep := [1, 3, 5], sl := fun i => [(7, .int .i64 i)], kp := [0, 1], pc := fun _ => [], nx := 2, inv := fun i => i ≤ y.rules.length ∧ (parseF (writF y)).rules.take i = y.rules.take i, me := fun i => y.rules.length - i })],
  [(7, { X := Unit, keep := [1], sl := fun _ => [(3, .str (writF y))], kp := [0], pc := fun _ => [], nx := 1, inv := fun _ => True, me := fun _ => 0 })], 1, []⟩
def rliV (y : rliC.Y) : Prop := vc [rqtC, itoC, rpaC] Tryz.f14 rliC rliO y
end
end Go.Proofs.YtjdehneddakpnaaGreatDoor.sx
namespace Go.Proofs.YtjdehneddakpnaaGreatDoor.sx
open Go Go.RowKit
def shoVC (y : List UInt8) : Prop :=
 let q0 := List.length y;
 (
  ∃ z : Nat,
  Rfs [y] (
  Rfs [slen y] (
  (((b8 (34 : Int)) :: ([] : List UInt8)) = ((34 : UInt8) :: (escs (List.take z y)))) ∧
  ((0 : Int) = ((z : Nat) : Int)) ∧
  (Iv ((z : Nat) ≤ q0))))) ∧
 (
  ∀ x : Nat,
 let q1 := sat y ((x : Nat) : Int);
 let q2 := ilt ((x : Nat) : Int) (slen y);
 let q3 := ((b8 q1) :: ([] : List UInt8));
 let q4 := ile (32 : Int) q1;
 let q5 := ((34 : UInt8) :: (escs (List.take x y)));
 let q6 := ieq q1 (34 : Int);
 let q7 := ieq q1 (9 : Int);
 let q8 := ieq q1 (13 : Int);
 let q9 := ile q1 (126 : Int);
 let q10 := ieq q1 (10 : Int);
 let q11 := ieq q1 (92 : Int);
 let q12 := ishr .u8 q1 (4 : Int);
 let q13 := iand .u8 q1 (15 : Int);
 let q14 := lcat q5 ((b8 (34 : Int)) :: ([] : List UInt8));
 let q15 := lcat q5 q3;
 let q16 := lcat q5 ((92 : UInt8) :: ((114 : UInt8) :: ([] : List UInt8)));
 let q17 := lcat q5 ((92 : UInt8) :: ((110 : UInt8) :: ([] : List UInt8)));
 let q18 := lcat q5 ((92 : UInt8) :: ((116 : UInt8) :: ([] : List UInt8)));
 let q19 := lcat q5 ((b8 (92 : Int)) :: q3);
 let q20 : Prop := (
 ((fits (llen q19) 1) = true) ∧
 ∃ z : Nat,
  Rfs [y] (
  Rfs [slen y] (
  (q19 = ((34 : UInt8) :: (escs (List.take z y)))) ∧
  ((iadd .i64 ((x : Nat) : Int) (1 : Int)) = ((z : Nat) : Int)) ∧
  (Iv (((z : Nat) ≤ q0) ∧ ((q0 : Nat) - z : Nat) < ((q0 : Nat) - x))))));
 let q21 := lcat q5 ((b8 (92 : Int)) :: ((b8 (120 : Int)) :: ((b8 (sat ((48 : UInt8) :: ((49 : UInt8) :: ((50 : UInt8) :: ((51 : UInt8) :: ((52 : UInt8) :: ((53 : UInt8) :: ((54 : UInt8) :: ((55 : UInt8) :: ((56 : UInt8) :: ((57 : UInt8) :: ((97 : UInt8) :: ((98 : UInt8) :: ((99 : UInt8) :: ((100 : UInt8) :: ((101 : UInt8) :: ((102 : UInt8) :: ([] : List UInt8))))))))))))))))) q12)) :: ((b8 (sat ((48 : UInt8) :: ((49 : UInt8) :: ((50 : UInt8) :: ((51 : UInt8) :: ((52 : UInt8) :: ((53 : UInt8) :: ((54 : UInt8) :: ((55 : UInt8) :: ((56 : UInt8) :: ((57 : UInt8) :: ((97 : UInt8) :: ((98 : UInt8) :: ((99 : UInt8) :: ((100 : UInt8) :: ((101 : UInt8) :: ((102 : UInt8) :: ([] : List UInt8))))))))))))))))) q13)) :: ([] : List UInt8)))));
 let q22 : Prop := (
 Tt 1 (
  ((ile (0 : Int) q1) = true) ∧
  ((ile (0 : Int) q12) = true) ∧
  ((ilt q12 (slen ((48 : UInt8) :: ((49 : UInt8) :: ((50 : UInt8) :: ((51 : UInt8) :: ((52 : UInt8) :: ((53 : UInt8) :: ((54 : UInt8) :: ((55 : UInt8) :: ((56 : UInt8) :: ((57 : UInt8) :: ((97 : UInt8) :: ((98 : UInt8) :: ((99 : UInt8) :: ((100 : UInt8) :: ((101 : UInt8) :: ((102 : UInt8) :: ([] : List UInt8))))))))))))))))))) = true) ∧
  ((ile (0 : Int) q13) = true) ∧
  ((ilt q13 (slen ((48 : UInt8) :: ((49 : UInt8) :: ((50 : UInt8) :: ((51 : UInt8) :: ((52 : UInt8) :: ((53 : UInt8) :: ((54 : UInt8) :: ((55 : UInt8) :: ((56 : UInt8) :: ((57 : UInt8) :: ((97 : UInt8) :: ((98 : UInt8) :: ((99 : UInt8) :: ((100 : UInt8) :: ((101 : UInt8) :: ((102 : UInt8) :: ([] : List UInt8))))))))))))))))))) = true) ∧
  ((fits (llen q21) 1) = true) ∧
  ∃ z : Nat,
  Rfs [y] (
  Rfs [slen y] (
  (q21 = ((34 : UInt8) :: (escs (List.take z y)))) ∧
  ((iadd .i64 ((x : Nat) : Int) (1 : Int)) = ((z : Nat) : Int)) ∧
  (Iv (((z : Nat) ≤ q0) ∧ ((q0 : Nat) - z : Nat) < ((q0 : Nat) - x)))))));
  (Iv ((x : Nat) ≤ q0)) →
  Bth q2 (
  ((ile (0 : Int) ((x : Nat) : Int)) = true) ∧
  (q2 = true) ∧
  Bth q6 (
  q20) (
  Bth q11 (
  q20) (
  Bth q10 (
  ((fits (llen q17) 1) = true) ∧
  ∃ z : Nat,
  Rfs [y] (
  Rfs [slen y] (
  (q17 = ((34 : UInt8) :: (escs (List.take z y)))) ∧
  ((iadd .i64 ((x : Nat) : Int) (1 : Int)) = ((z : Nat) : Int)) ∧
  (Iv (((z : Nat) ≤ q0) ∧ ((q0 : Nat) - z : Nat) < ((q0 : Nat) - x)))))) (
  Bth q7 (
  ((fits (llen q18) 1) = true) ∧
  ∃ z : Nat,
  Rfs [y] (
  Rfs [slen y] (
  (q18 = ((34 : UInt8) :: (escs (List.take z y)))) ∧
  ((iadd .i64 ((x : Nat) : Int) (1 : Int)) = ((z : Nat) : Int)) ∧
  (Iv (((z : Nat) ≤ q0) ∧ ((q0 : Nat) - z : Nat) < ((q0 : Nat) - x)))))) (
  Bth q8 (
  ((fits (llen q16) 1) = true) ∧
  ∃ z : Nat,
  Rfs [y] (
  Rfs [slen y] (
  (q16 = ((34 : UInt8) :: (escs (List.take z y)))) ∧
  ((iadd .i64 ((x : Nat) : Int) (1 : Int)) = ((z : Nat) : Int)) ∧
  (Iv (((z : Nat) ≤ q0) ∧ ((q0 : Nat) - z : Nat) < ((q0 : Nat) - x)))))) (
  Bth q4 (
  Bth q9 (
  ((fits (llen q15) 1) = true) ∧
  ∃ z : Nat,
  Rfs [y] (
  Rfs [slen y] (
  (q15 = ((34 : UInt8) :: (escs (List.take z y)))) ∧
  ((iadd .i64 ((x : Nat) : Int) (1 : Int)) = ((z : Nat) : Int)) ∧
  (Iv (((z : Nat) ≤ q0) ∧ ((q0 : Nat) - z : Nat) < ((q0 : Nat) - x)))))) (
  q22)) (
  q22))))))) (
  ((fits (llen q14) 1) = true) ∧
  (q14 = (shownF y)) ∧
  True))
theorem shoV_eq : ∀ y, shoVC y = shoV y := fun y => by kernel_rfl
def rqtVC (y : List UInt8) : Prop :=
 let q0 := List.length y;
 (
  ∃ z : Nat,
  Rfs [y] (
  (((34 : UInt8) :: ([] : List UInt8)) = ((34 : UInt8) :: (escs (List.take z y)))) ∧
  ((0 : Int) = ((z : Nat) : Int)) ∧
  (Iv ((z : Nat) ≤ q0)))) ∧
 (
  ∀ x : Nat,
 let q1 := sat y ((x : Nat) : Int);
 let q2 := ilt ((x : Nat) : Int) (slen y);
 let q3 := iadd .i64 ((x : Nat) : Int) (1 : Int);
 let q4 := ieq q1 (34 : Int);
 let q5 := ((34 : UInt8) :: (escs (List.take x y)));
 let q6 := ilt (126 : Int) q1;
 let q7 := ieq q1 (9 : Int);
 let q8 := ilt q1 (32 : Int);
 let q9 := ieq q1 (13 : Int);
 let q10 := ieq q1 (10 : Int);
 let q11 := ieq q1 (92 : Int);
 let q12 := ishr .u8 q1 (4 : Int);
 let q13 := iand .u8 q1 (15 : Int);
 let q14 := ltake y q3;
 let q15 := iadd .u8 q12 (1 : Int);
 let q16 := iadd .u8 q13 (1 : Int);
 let q17 := ldrop q14 ((x : Nat) : Int);
 let q18 := scat q5 ((34 : UInt8) :: ([] : List UInt8));
 let q19 := scat q5 ((92 : UInt8) :: ([] : List UInt8));
 let q20 := scat q5 ((92 : UInt8) :: ((114 : UInt8) :: ([] : List UInt8)));
 let q21 := scat q5 ((92 : UInt8) :: ((116 : UInt8) :: ([] : List UInt8)));
 let q22 := scat q5 ((92 : UInt8) :: ((110 : UInt8) :: ([] : List UInt8)));
 let q23 := scat q5 ((92 : UInt8) :: ((120 : UInt8) :: ([] : List UInt8)));
 let q24 := scat q5 q17;
 let q25 := scat q19 q17;
 let q26 := ltake ((48 : UInt8) :: ((49 : UInt8) :: ((50 : UInt8) :: ((51 : UInt8) :: ((52 : UInt8) :: ((53 : UInt8) :: ((54 : UInt8) :: ((55 : UInt8) :: ((56 : UInt8) :: ((57 : UInt8) :: ((97 : UInt8) :: ((98 : UInt8) :: ((99 : UInt8) :: ((100 : UInt8) :: ((101 : UInt8) :: ((102 : UInt8) :: ([] : List UInt8))))))))))))))))) q16;
 let q27 := ltake ((48 : UInt8) :: ((49 : UInt8) :: ((50 : UInt8) :: ((51 : UInt8) :: ((52 : UInt8) :: ((53 : UInt8) :: ((54 : UInt8) :: ((55 : UInt8) :: ((56 : UInt8) :: ((57 : UInt8) :: ((97 : UInt8) :: ((98 : UInt8) :: ((99 : UInt8) :: ((100 : UInt8) :: ((101 : UInt8) :: ((102 : UInt8) :: ([] : List UInt8))))))))))))))))) q15;
 let q28 := scat q23 (ldrop q27 q12);
 let q29 : Prop := (
 ((ile (slen q19) BIG) = true) ∧
 ((ile (0 : Int) q3) = true) ∧
 ((ile q3 (llen y)) = true) ∧
 ((ile (0 : Int) ((x : Nat) : Int)) = true) ∧
 ((ile ((x : Nat) : Int) (llen q14)) = true) ∧
 ((ile (slen q25) BIG) = true) ∧
 ∃ z : Nat,
  Rfs [y] (
  (q25 = ((34 : UInt8) :: (escs (List.take z y)))) ∧
  (q3 = ((z : Nat) : Int)) ∧
  (Iv (((z : Nat) ≤ q0) ∧ ((q0 : Nat) - z : Nat) < ((q0 : Nat) - x)))));
 let q30 := scat q28 (ldrop q26 q13);
 let q31 : Prop := (
 ((ile (slen q23) BIG) = true) ∧
 Tt 1 (
  ((ile (0 : Int) q1) = true) ∧
  Tt 1 (
  ((ile (0 : Int) q1) = true) ∧
  ((ile (0 : Int) q15) = true) ∧
  ((ile q15 (llen ((48 : UInt8) :: ((49 : UInt8) :: ((50 : UInt8) :: ((51 : UInt8) :: ((52 : UInt8) :: ((53 : UInt8) :: ((54 : UInt8) :: ((55 : UInt8) :: ((56 : UInt8) :: ((57 : UInt8) :: ((97 : UInt8) :: ((98 : UInt8) :: ((99 : UInt8) :: ((100 : UInt8) :: ((101 : UInt8) :: ((102 : UInt8) :: ([] : List UInt8))))))))))))))))))) = true) ∧
  ((ile (0 : Int) q12) = true) ∧
  ((ile q12 (llen q27)) = true) ∧
  ((ile (slen q28) BIG) = true) ∧
  ((ile (0 : Int) q16) = true) ∧
  ((ile q16 (llen ((48 : UInt8) :: ((49 : UInt8) :: ((50 : UInt8) :: ((51 : UInt8) :: ((52 : UInt8) :: ((53 : UInt8) :: ((54 : UInt8) :: ((55 : UInt8) :: ((56 : UInt8) :: ((57 : UInt8) :: ((97 : UInt8) :: ((98 : UInt8) :: ((99 : UInt8) :: ((100 : UInt8) :: ((101 : UInt8) :: ((102 : UInt8) :: ([] : List UInt8))))))))))))))))))) = true) ∧
  ((ile (0 : Int) q13) = true) ∧
  ((ile q13 (llen q26)) = true) ∧
  ((ile (slen q30) BIG) = true) ∧
  ∃ z : Nat,
  Rfs [y] (
  (q30 = ((34 : UInt8) :: (escs (List.take z y)))) ∧
  (q3 = ((z : Nat) : Int)) ∧
  (Iv (((z : Nat) ≤ q0) ∧ ((q0 : Nat) - z : Nat) < ((q0 : Nat) - x)))))));
  (Iv ((x : Nat) ≤ q0)) →
  Bth q2 (
  ((ile (0 : Int) ((x : Nat) : Int)) = true) ∧
  (q2 = true) ∧
  Bth q4 (
  q29) (
  Bth q11 (
  q29) (
  Bth q10 (
  ((ile (slen q22) BIG) = true) ∧
  ∃ z : Nat,
  Rfs [y] (
  (q22 = ((34 : UInt8) :: (escs (List.take z y)))) ∧
  (q3 = ((z : Nat) : Int)) ∧
  (Iv (((z : Nat) ≤ q0) ∧ ((q0 : Nat) - z : Nat) < ((q0 : Nat) - x))))) (
  Bth q7 (
  ((ile (slen q21) BIG) = true) ∧
  ∃ z : Nat,
  Rfs [y] (
  (q21 = ((34 : UInt8) :: (escs (List.take z y)))) ∧
  (q3 = ((z : Nat) : Int)) ∧
  (Iv (((z : Nat) ≤ q0) ∧ ((q0 : Nat) - z : Nat) < ((q0 : Nat) - x))))) (
  Bth q9 (
  ((ile (slen q20) BIG) = true) ∧
  ∃ z : Nat,
  Rfs [y] (
  (q20 = ((34 : UInt8) :: (escs (List.take z y)))) ∧
  (q3 = ((z : Nat) : Int)) ∧
  (Iv (((z : Nat) ≤ q0) ∧ ((q0 : Nat) - z : Nat) < ((q0 : Nat) - x))))) (
  Bth q8 (
  q31) (
  Bth q6 (
  q31) (
  ((ile (0 : Int) q3) = true) ∧
  ((ile q3 (llen y)) = true) ∧
  ((ile (0 : Int) ((x : Nat) : Int)) = true) ∧
  ((ile ((x : Nat) : Int) (llen q14)) = true) ∧
  ((ile (slen q24) BIG) = true) ∧
  ∃ z : Nat,
  Rfs [y] (
  (q24 = ((34 : UInt8) :: (escs (List.take z y)))) ∧
  (q3 = ((z : Nat) : Int)) ∧
  (Iv (((z : Nat) ≤ q0) ∧ ((q0 : Nat) - z : Nat) < ((q0 : Nat) - x)))))))))))) (
  ((ile (slen q18) BIG) = true) ∧
  (q18 = (shownF y)) ∧
  True))
theorem rqtV_eq : ∀ y, rqtVC y = rqtV y := fun y => by kernel_rfl
def wriVC (y : Sv) : Prop :=
 let q0 := Lib.itoa (Sv.n y);
 let q1 := Bool.not (seq (Sv.cont y) ([] : List UInt8));
 let q2 := ieq (Sv.kind y) (10 : Int);
 let q3 := llen (Sv.rules y);
 let q4 := List.length (Sv.rules y);
 let q5 := ieq (Sv.kind y) (9 : Int);
 let q6 := ieq (Sv.kind y) (7 : Int);
 let q7 := ieq (Sv.kind y) (3 : Int);
 let q8 := ieq (Sv.kind y) (8 : Int);
 let q9 := ieq (Sv.kind y) (6 : Int);
 let q10 := ieq (Sv.kind y) (4 : Int);
 let q11 := ieq (Sv.kind y) (5 : Int);
 let q12 := ieq (Sv.kind y) (2 : Int);
 let q13 := ieq (Sv.kind y) (1 : Int);
 let q14 := scat ((99 : UInt8) :: ((117 : UInt8) :: ((116 : UInt8) :: ((32 : UInt8) :: ([] : List UInt8))))) (Sv.name y);
 let q15 := scat q14 ((32 : UInt8) :: ([] : List UInt8));
 let q16 := scat q15 q0;
 let q17 := scat ((32 : UInt8) :: ((99 : UInt8) :: ((111 : UInt8) :: ((110 : UInt8) :: ((116 : UInt8) :: ((32 : UInt8) :: ([] : List UInt8))))))) (shownF (Sv.cont y));
 let q18 := scat ((113 : UInt8) :: ((117 : UInt8) :: ((101 : UInt8) :: ((114 : UInt8) :: ((121 : UInt8) :: ((32 : UInt8) :: ([] : List UInt8))))))) q0;
 let q19 := scat ((99 : UInt8) :: ((114 : UInt8) :: ((97 : UInt8) :: ((115 : UInt8) :: ((104 : UInt8) :: ((32 : UInt8) :: ([] : List UInt8))))))) q0;
 let q20 := scat ((97 : UInt8) :: ((112 : UInt8) :: ((112 : UInt8) :: ((101 : UInt8) :: ((110 : UInt8) :: ((100 : UInt8) :: ((32 : UInt8) :: ([] : List UInt8)))))))) (Sv.name y);
 let q21 := scat ((114 : UInt8) :: ((101 : UInt8) :: ((109 : UInt8) :: ((111 : UInt8) :: ((118 : UInt8) :: ((101 : UInt8) :: ((32 : UInt8) :: ([] : List UInt8)))))))) (Sv.name y);
 let q22 := scat ((114 : UInt8) :: ((101 : UInt8) :: ((110 : UInt8) :: ((97 : UInt8) :: ((109 : UInt8) :: ((101 : UInt8) :: ((32 : UInt8) :: ([] : List UInt8)))))))) (Sv.name y);
 let q23 := scat ((99 : UInt8) :: ((114 : UInt8) :: ((101 : UInt8) :: ((97 : UInt8) :: ((116 : UInt8) :: ((101 : UInt8) :: ((32 : UInt8) :: ([] : List UInt8)))))))) (Sv.name y);
 let q24 := scat q20 ((32 : UInt8) :: ([] : List UInt8));
 let q25 := scat q22 ((32 : UInt8) :: ([] : List UInt8));
 let q26 := scat q25 (Sv.to y);
 let q27 := scat q24 (shownF (Sv.data y));
 (((inR .i64 (Sv.kind y)) = true) ∧ ((inR .i64 (Sv.n y)) = true) ∧ ((ile (slen (Sv.name y)) (9223372036854775807 : Int)) = true) ∧ ((ile (slen (Sv.to y)) (9223372036854775807 : Int)) = true) ∧ ((ile (llen (Sv.data y)) (9223372036854775807 : Int)) = true) ∧ ((ile q3 (9223372036854775807 : Int)) = true) ∧ ((ile (slen (Sv.cont y)) (9223372036854775807 : Int)) = true) ∧ True) →
  Bth q13 (
  ((ile (slen q23) BIG) = true) ∧
  (q23 = (writF y)) ∧
  True) (
  Bth q11 (
  ((ile (slen q21) BIG) = true) ∧
  (q21 = (writF y)) ∧
  True) (
  Bth q12 (
  ((ile (slen q20) BIG) = true) ∧
  ((ile (slen q24) BIG) = true) ∧
  (Iv ((List.length (Sv.data y) : Nat) ≤ 1000000)) ∧
  Rfs [Sv.data y] (
  ((ile (slen q27) BIG) = true) ∧
  Rfs [Sv.name y, Sv.name y, Sv.data y, Sv.data y] (
  (q27 = (writF y)) ∧
  True))) (
  Bth q7 (
  ((ile (slen q22) BIG) = true) ∧
  ((ile (slen q25) BIG) = true) ∧
  ((ile (slen q26) BIG) = true) ∧
  (q26 = (writF y)) ∧
  True) (
  Bth q10 (
  ((ile (slen q14) BIG) = true) ∧
  ((ile (slen q15) BIG) = true) ∧
  (Iv ((inR .i64 (Sv.n y)) = true)) ∧
  Rfs [Sv.n y] (
  ((ile (slen q16) BIG) = true) ∧
  Rfs [Sv.name y, Sv.name y] (
  Rfs [Sv.n y] (
  (q16 = (writF y)) ∧
  True)))) (
  Bth q9 (
  (((112 : UInt8) :: ((111 : UInt8) :: ((108 : UInt8) :: ((108 : UInt8) :: ([] : List UInt8))))) = (writF y)) ∧
  True) (
  Bth q2 (
  (((111 : UInt8) :: ((112 : UInt8) :: ((101 : UInt8) :: ((110 : UInt8) :: ([] : List UInt8))))) = (writF y)) ∧
  True) (
  Bth q8 (
  (Iv ((inR .i64 (Sv.n y)) = true)) ∧
  Rfs [Sv.n y] (
  ((ile (slen q18) BIG) = true) ∧
  (q18 = (writF y)) ∧
  True)) (
  Bth q5 (
  (Iv ((inR .i64 (Sv.n y)) = true)) ∧
  Rfs [Sv.n y] (
  ((ile (slen q19) BIG) = true) ∧
  (q19 = (writF y)) ∧
  True)) (
  Bth q6 (
  (
  ∃ z : Nat,
  Rfs [Sv.rules y] (
  Rfs [q3] (
  (((108 : UInt8) :: ((111 : UInt8) :: ((97 : UInt8) :: ((100 : UInt8) :: ([] : List UInt8))))) = (ruls y z)) ∧
  ((0 : Int) = ((z : Nat) : Int)) ∧
  Rfs [Sv.kind y, Sv.n y] (
  Rfs [Sv.name y, Sv.to y, Sv.data y] (
  Rfs [Sv.rules y] (
  Rfs [Sv.cont y] (
  (Iv ((z : Nat) ≤ q4))))))))) ∧
  (
  ∀ x : Nat,
 let q28 := ilt ((x : Nat) : Int) q3;
 let q29 := gt (([] : List UInt8), ([] : List UInt8)) (Sv.rules y) (Int.toNat ((x : Nat) : Int));
 let q30 := scat ((32 : UInt8) :: ([] : List UInt8)) q29.1;
 let q31 := scat q30 ((32 : UInt8) :: ([] : List UInt8));
 let q32 := scat (ruls y x) q17;
 let q33 := scat q31 (shownF q29.2);
 let q34 := scat (ruls y x) q33;
  (Iv ((x : Nat) ≤ q4)) →
  Bth q28 (
  ((ile (0 : Int) ((x : Nat) : Int)) = true) ∧
  (q28 = true) ∧
  ((ile (slen q30) BIG) = true) ∧
  ((ile (slen q31) BIG) = true) ∧
  (Iv ((List.length q29.2 : Nat) ≤ 1000000)) ∧
  Rfs [q29.2] (
  ((ile (slen q33) BIG) = true) ∧
  ((ile (slen q34) BIG) = true) ∧
  Rfs [q29.1, q29.1, q29.2] (
  ∃ z : Nat,
  Rfs [Sv.rules y] (
  Rfs [q3] (
  (q34 = (ruls y z)) ∧
  ((iadd .i64 ((x : Nat) : Int) (1 : Int)) = ((z : Nat) : Int)) ∧
  Rfs [Sv.kind y, Sv.n y] (
  Rfs [Sv.name y, Sv.to y, Sv.data y] (
  Rfs [Sv.rules y] (
  Rfs [Sv.cont y] (
  (Iv (((z : Nat) ≤ q4) ∧ ((q4 : Nat) - z : Nat) < ((q4 : Nat) - x)))))))))))) (
  Bth q1 (
  (Iv ((List.length (Sv.cont y) : Nat) ≤ 1000000)) ∧
  Rfs [Sv.cont y] (
  ((ile (slen q17) BIG) = true) ∧
  ((ile (slen q32) BIG) = true) ∧
  (q32 = (writF y)) ∧
  True)) (
  ((ruls y x) = (writF y)) ∧
  True)))) (
  (([] : List UInt8) = (writF y)) ∧
  True))))))))))
theorem wriV_eq : ∀ y, wriVC y = wriV y := fun y => by kernel_rfl
def eqpVC (y : Prod (List (Prod (List UInt8) (List UInt8))) (List (Prod (List UInt8) (List UInt8)))) : Prop :=
 let q0 := List.length y.1;
 let q1 := Bool.not (ieq (llen y.1) (llen y.2));
 let q2 := Decidable.decide (y.1 = y.2);
 ((ile (llen y.1) (9223372036854775807 : Int)) = true) →
  Bth q1 (
  (false = q2) ∧
  True) (
  (
  ∃ z : Nat,
  Rfs [y.1, y.2] (
  Rfs [llen y.1] (
  ((0 : Int) = ((z : Nat) : Int)) ∧
  (Iv (((z : Nat) ≤ q0) ∧ (List.take z y.1) = (List.take z y.2)))))) ∧
  (
  ∀ x : Nat,
 let q3 := Int.toNat ((x : Nat) : Int);
 let q4 := ilt ((x : Nat) : Int) (llen y.1);
 let q5 := gt (([] : List UInt8), ([] : List UInt8)) y.2 q3;
 let q6 := gt (([] : List UInt8), ([] : List UInt8)) y.1 q3;
 let q7 := Bool.not (Bool.and (seq q6.1 q5.1) (seq q6.2 q5.2));
  (Iv (((x : Nat) ≤ q0) ∧ (List.take x y.1) = (List.take x y.2))) →
  Bth q4 (
  ((ile (0 : Int) ((x : Nat) : Int)) = true) ∧
  (q4 = true) ∧
  ((ile (0 : Int) ((x : Nat) : Int)) = true) ∧
  ((ilt ((x : Nat) : Int) (llen y.2)) = true) ∧
  Rfs [q6.1, q6.2, q5.1, q5.2] (
  Bth q7 (
  (false = q2) ∧
  True) (
  ∃ z : Nat,
  Rfs [y.1, y.2] (
  Rfs [llen y.1] (
  ((iadd .i64 ((x : Nat) : Int) (1 : Int)) = ((z : Nat) : Int)) ∧
  (Iv ((((z : Nat) ≤ q0) ∧ (List.take z y.1) = (List.take z y.2)) ∧ ((q0 : Nat) - z : Nat) < ((q0 : Nat) - x)))))))) (
  (true = q2) ∧
  True)))
theorem eqpV_eq : ∀ y, eqpVC y = eqpV y := fun y => by kernel_rfl
def samVC (y : Prod Sv Sv) : Prop :=
 let q0 := sameF y.1 y.2;
 let q1 := seq (Sv.cont y.1) (Sv.cont y.2);
 let q2 := ieq (Sv.n y.1) (Sv.n y.2);
 let q3 := ieq (Sv.kind y.1) (Sv.kind y.2);
 let q4 := seq (Sv.to y.1) (Sv.to y.2);
 let q5 := seq (Sv.name y.1) (Sv.name y.2);
 let q6 := seq (Sv.data y.1) (Sv.data y.2);
 Bth q3 (
  Bth q2 (
  Bth q5 (
  Bth q4 (
  Bth q6 (
  Bth q1 (
  (Iv True) ∧
  Rfs [Sv.rules y.1, Sv.rules y.2] (
  ((Decidable.decide ((Sv.rules y.1) = (Sv.rules y.2))) = q0) ∧
  True)) (
  (false = q0) ∧
  True)) (
  (false = q0) ∧
  True)) (
  (false = q0) ∧
  True)) (
  (false = q0) ∧
  True)) (
  (false = q0) ∧
  True)) (
  (false = q0) ∧
  True)
theorem samV_eq : ∀ y, samVC y = samV y := fun y => by kernel_rfl
def linVC (y : Sv) : Prop :=
 let q0 := parseF (writF y);
 let q1 := Bool.not (sameF q0 y);
 let q2 := llen (Sv.rules y);
 let q3 := List.length (Sv.rules y);
 let q4 : Prop := (
 (([] : List UInt8) = (lineF y)) ∧
 True);
 let q5 := Bool.not (ieq (parseN (writF y)) (0 : Int));
 (
  (
  ∃ z : Nat,
  Rfs [Sv.rules y] (
  Rfs [q2] (
  ((iadd .i64 (iadd .i64 (iadd .i64 (slen (Sv.name y)) (slen (Sv.to y))) (llen (Sv.data y))) (slen (Sv.cont y))) = (((baseS y : Nat) + (patsN (List.take z (Sv.rules y))) : Nat) : Int)) ∧
  ((0 : Int) = ((z : Nat) : Int)) ∧
  Rfs [Sv.kind y, Sv.n y] (
  Rfs [Sv.name y, Sv.to y, Sv.data y] (
  Rfs [Sv.rules y] (
  Rfs [Sv.cont y] (
  (Iv ((z : Nat) ≤ q3))))))))) ∧
  (
  ∀ x : Nat,
 let q6 := ilt ((x : Nat) : Int) q2;
 let q7 := gt (([] : List UInt8), ([] : List UInt8)) (Sv.rules y) (Int.toNat ((x : Nat) : Int));
 let q8 := (((baseS y : Nat) + (patsN (List.take x (Sv.rules y))) : Nat) : Int);
 let q9 := iadd .i64 q8 (iadd .i64 (slen q7.1) (slen q7.2));
 let q10 := ilt (2000 : Int) q9;
  (Iv ((x : Nat) ≤ q3)) →
  Bth q6 (
  ((ile (0 : Int) ((x : Nat) : Int)) = true) ∧
  (q6 = true) ∧
  Bth q10 (
  ∃ z : Int,
  (q9 = z) ∧
  Rfs [Sv.kind y, Sv.n y] (
  Rfs [Sv.name y, Sv.to y, Sv.data y] (
  Rfs [Sv.rules y] (
  Rfs [Sv.cont y] (
  (Iv (((((2000 : Int) : Int) < z) ∧ (2000 : Nat) < (bulkS y)) ∨ (z = ((bulkS y : Nat) : Int))))))))) (
  ∃ z : Nat,
  Rfs [Sv.rules y] (
  Rfs [q2] (
  (q9 = (((baseS y : Nat) + (patsN (List.take z (Sv.rules y))) : Nat) : Int)) ∧
  ((iadd .i64 ((x : Nat) : Int) (1 : Int)) = ((z : Nat) : Int)) ∧
  Rfs [Sv.kind y, Sv.n y] (
  Rfs [Sv.name y, Sv.to y, Sv.data y] (
  Rfs [Sv.rules y] (
  Rfs [Sv.cont y] (
  (Iv (((z : Nat) ≤ q3) ∧ ((q3 : Nat) - z : Nat) < ((q3 : Nat) - x))))))))))) (
  ∃ z : Int,
  (q8 = z) ∧
  Rfs [Sv.kind y, Sv.n y] (
  Rfs [Sv.name y, Sv.to y, Sv.data y] (
  Rfs [Sv.rules y] (
  Rfs [Sv.cont y] (
  (Iv (((((2000 : Int) : Int) < z) ∧ (2000 : Nat) < (bulkS y)) ∨ (z = ((bulkS y : Nat) : Int))))))))))) ∧
 (
  ∀ x : Int,
 let q11 := ilt (2000 : Int) x;
  (Iv (((((2000 : Int) : Int) < x) ∧ (2000 : Nat) < (bulkS y)) ∨ (x = ((bulkS y : Nat) : Int)))) →
  Bth q11 (
  q4) (
  (Iv (((bulkS y : Nat) ≤ 2000) ∧ (q3 : Nat) ≤ 1000000000000)) ∧
  Rfs [Sv.kind y, Sv.n y] (
  Rfs [Sv.name y, Sv.to y, Sv.data y] (
  Rfs [Sv.rules y] (
  Rfs [Sv.cont y] (
  (Iv True) ∧
  Rfs [writF y] (
  Bth q5 (
  q4) (
  (Iv True) ∧
  Rfs [Sv.kind q0, Sv.n q0] (
  Rfs [Sv.name q0, Sv.to q0, Sv.data q0] (
  Rfs [Sv.rules q0] (
  Rfs [Sv.cont q0] (
  Rfs [Sv.kind y, Sv.n y] (
  Rfs [Sv.name y, Sv.to y, Sv.data y] (
  Rfs [Sv.rules y] (
  Rfs [Sv.cont y] (
  Bth q1 (
  q4) (
  ((writF y) = (lineF y)) ∧
  True)))))))))))))))))
theorem linV_eq : ∀ y, linVC y = linV y := fun y => by kernel_rfl
def rliVC (y : Sv) : Prop :=
 let q0 := parseF (writF y);
 let q1 := Lib.itoa (Sv.n y);
 let q2 := shownF (Sv.cont y);
 let q3 := Bool.not (seq (Sv.cont y) ([] : List UInt8));
 let q4 := ieq (Sv.kind y) (7 : Int);
 let q5 := llen (Sv.rules y);
 let q6 := ieq (Sv.kind y) (9 : Int);
 let q7 := Bool.not (seq (Sv.cont q0) (Sv.cont y));
 let q8 := Bool.not (seq (Sv.data q0) (Sv.data y));
 let q9 := Bool.not (seq (Sv.to q0) (Sv.to y));
 let q10 := Bool.not (seq (Sv.name q0) (Sv.name y));
 let q11 := Bool.not (ieq (Sv.n q0) (Sv.n y));
 let q12 := Bool.not (ieq (Sv.kind q0) (Sv.kind y));
 let q13 := List.length (Sv.rules y);
 let q14 := ieq (Sv.kind y) (4 : Int);
 let q15 := ieq (Sv.kind y) (8 : Int);
 let q16 := ieq (Sv.kind y) (10 : Int);
 let q17 := ieq (Sv.kind y) (6 : Int);
 let q18 := ieq (Sv.kind y) (2 : Int);
 let q19 := ieq (Sv.kind y) (3 : Int);
 let q20 := ieq (Sv.kind y) (5 : Int);
 let q21 := ieq (Sv.kind y) (1 : Int);
 let q22 : Prop := (
 (([] : List UInt8) = (lineF y)) ∧
 True);
 let q23 := llen (Sv.rules q0);
 let q24 := Bool.not (ieq (parseN (writF y)) (0 : Int));
 let q25 := Bool.not (ieq q23 q5);
 let q26 := scat ((99 : UInt8) :: ((117 : UInt8) :: ((116 : UInt8) :: ((32 : UInt8) :: ([] : List UInt8))))) (Sv.name y);
 let q27 := scat q26 ((32 : UInt8) :: ([] : List UInt8));
 let q28 := scat q27 q1;
 let q29 := scat ((99 : UInt8) :: ((114 : UInt8) :: ((97 : UInt8) :: ((115 : UInt8) :: ((104 : UInt8) :: ((32 : UInt8) :: ([] : List UInt8))))))) q1;
 let q30 := scat ((113 : UInt8) :: ((117 : UInt8) :: ((101 : UInt8) :: ((114 : UInt8) :: ((121 : UInt8) :: ((32 : UInt8) :: ([] : List UInt8))))))) q1;
 let q31 := scat ((114 : UInt8) :: ((101 : UInt8) :: ((110 : UInt8) :: ((97 : UInt8) :: ((109 : UInt8) :: ((101 : UInt8) :: ((32 : UInt8) :: ([] : List UInt8)))))))) (Sv.name y);
 let q32 := scat ((99 : UInt8) :: ((114 : UInt8) :: ((101 : UInt8) :: ((97 : UInt8) :: ((116 : UInt8) :: ((101 : UInt8) :: ((32 : UInt8) :: ([] : List UInt8)))))))) (Sv.name y);
 let q33 := scat ((97 : UInt8) :: ((112 : UInt8) :: ((112 : UInt8) :: ((101 : UInt8) :: ((110 : UInt8) :: ((100 : UInt8) :: ((32 : UInt8) :: ([] : List UInt8)))))))) (Sv.name y);
 let q34 := scat ((114 : UInt8) :: ((101 : UInt8) :: ((109 : UInt8) :: ((111 : UInt8) :: ((118 : UInt8) :: ((101 : UInt8) :: ((32 : UInt8) :: ([] : List UInt8)))))))) (Sv.name y);
 let q35 : Prop := (
 Rfs [Sv.kind y, Sv.n y] (
  Rfs [Sv.name y, Sv.to y, Sv.data y] (
  Rfs [Sv.rules y] (
  Rfs [Sv.cont y] (
  (Iv True))))));
 let q36 := scat q33 ((32 : UInt8) :: ([] : List UInt8));
 let q37 := scat q31 ((32 : UInt8) :: ([] : List UInt8));
 let q38 := scat q37 (Sv.to y);
 let q39 := scat q36 (shownF (Sv.data y));
 (((inR .i64 (Sv.kind y)) = true) ∧ ((inR .i64 (Sv.n y)) = true) ∧ ((ile (slen (Sv.name y)) (9223372036854775807 : Int)) = true) ∧ ((ile (slen (Sv.to y)) (9223372036854775807 : Int)) = true) ∧ ((ile (llen (Sv.data y)) (9223372036854775807 : Int)) = true) ∧ ((ile q5 (9223372036854775807 : Int)) = true) ∧ ((ile (slen (Sv.cont y)) (9223372036854775807 : Int)) = true) ∧ True) →
  (
  Bth q21 (
  ((ile (slen q32) BIG) = true) ∧
  ∃ z : Unit,
  (q32 = (writF y)) ∧
  q35) (
  Bth q20 (
  ((ile (slen q34) BIG) = true) ∧
  ∃ z : Unit,
  (q34 = (writF y)) ∧
  q35) (
  Bth q18 (
  ((ile (slen q33) BIG) = true) ∧
  ((ile (slen q36) BIG) = true) ∧
  (Iv ((List.length (Sv.data y) : Nat) ≤ 1000000000000000)) ∧
  Rfs [Sv.data y] (
  ((ile (slen q39) BIG) = true) ∧
  Rfs [Sv.name y, Sv.name y, Sv.data y, Sv.data y] (
  ∃ z : Unit,
  (q39 = (writF y)) ∧
  q35))) (
  Bth q19 (
  ((ile (slen q31) BIG) = true) ∧
  ((ile (slen q37) BIG) = true) ∧
  ((ile (slen q38) BIG) = true) ∧
  ∃ z : Unit,
  (q38 = (writF y)) ∧
  q35) (
  Bth q14 (
  ((ile (slen q26) BIG) = true) ∧
  ((ile (slen q27) BIG) = true) ∧
  (Iv ((inR .i64 (Sv.n y)) = true)) ∧
  Rfs [Sv.n y] (
  ((ile (slen q28) BIG) = true) ∧
  Rfs [Sv.name y, Sv.name y] (
  Rfs [Sv.n y] (
  ∃ z : Unit,
  (q28 = (writF y)) ∧
  q35)))) (
  Bth q17 (
  ∃ z : Unit,
  (((112 : UInt8) :: ((111 : UInt8) :: ((108 : UInt8) :: ((108 : UInt8) :: ([] : List UInt8))))) = (writF y)) ∧
  q35) (
  Bth q16 (
  ∃ z : Unit,
  (((111 : UInt8) :: ((112 : UInt8) :: ((101 : UInt8) :: ((110 : UInt8) :: ([] : List UInt8))))) = (writF y)) ∧
  q35) (
  Bth q15 (
  (Iv ((inR .i64 (Sv.n y)) = true)) ∧
  Rfs [Sv.n y] (
  ((ile (slen q30) BIG) = true) ∧
  ∃ z : Unit,
  (q30 = (writF y)) ∧
  q35)) (
  Bth q6 (
  (Iv ((inR .i64 (Sv.n y)) = true)) ∧
  Rfs [Sv.n y] (
  ((ile (slen q29) BIG) = true) ∧
  ∃ z : Unit,
  (q29 = (writF y)) ∧
  q35)) (
  Bth q4 (
  (
  ∃ z : Nat,
  (((108 : UInt8) :: ((111 : UInt8) :: ((97 : UInt8) :: ((100 : UInt8) :: ([] : List UInt8))))) = (ruls y z)) ∧
  ((0 : Int) = ((z : Nat) : Int)) ∧
  Rfs [Sv.kind y, Sv.n y] (
  Rfs [Sv.name y, Sv.to y, Sv.data y] (
  Rfs [Sv.rules y] (
  Rfs [Sv.cont y] (
  (Iv ((z : Nat) ≤ q13))))))) ∧
  (
  ∀ x : Nat,
 let q40 := scat (ruls y x) ((32 : UInt8) :: ([] : List UInt8));
 let q41 := ilt ((x : Nat) : Int) q5;
 let q42 := gt (([] : List UInt8), ([] : List UInt8)) (Sv.rules y) (Int.toNat ((x : Nat) : Int));
 let q43 := scat q40 q42.1;
 let q44 := scat (ruls y x) ((32 : UInt8) :: ((99 : UInt8) :: ((111 : UInt8) :: ((110 : UInt8) :: ((116 : UInt8) :: ((32 : UInt8) :: ([] : List UInt8)))))));
 let q45 := scat q43 ((32 : UInt8) :: ([] : List UInt8));
 let q46 := scat q44 q2;
 let q47 := scat q45 (shownF q42.2);
  (Iv ((x : Nat) ≤ q13)) →
  Bth q41 (
  ((ile (slen q40) BIG) = true) ∧
  ((ile (0 : Int) ((x : Nat) : Int)) = true) ∧
  (q41 = true) ∧
  ((ile (slen q43) BIG) = true) ∧
  ((ile (slen q45) BIG) = true) ∧
  ((ile (0 : Int) ((x : Nat) : Int)) = true) ∧
  (q41 = true) ∧
  (Iv ((List.length q42.2 : Nat) ≤ 1000000000000000)) ∧
  Rfs [q42.2] (
  ((ile (slen q47) BIG) = true) ∧
  Rfs [Sv.rules y, Sv.rules y] (
  Rfs [q42.1, q42.1] (
  Rfs [Sv.rules y] (
  Rfs [q42.2] (
  ∃ z : Nat,
  (q47 = (ruls y z)) ∧
  ((iadd .i64 ((x : Nat) : Int) (1 : Int)) = ((z : Nat) : Int)) ∧
  Rfs [Sv.kind y, Sv.n y] (
  Rfs [Sv.name y, Sv.to y, Sv.data y] (
  Rfs [Sv.rules y] (
  Rfs [Sv.cont y] (
  (Iv (((z : Nat) ≤ q13) ∧ ((q13 : Nat) - z : Nat) < ((q13 : Nat) - x))))))))))))) (
  Bth q3 (
  ((ile (slen q44) BIG) = true) ∧
  (Iv ((List.length (Sv.cont y) : Nat) ≤ 1000000000000000)) ∧
  Rfs [Sv.cont y] (
  ((ile (slen q46) BIG) = true) ∧
  ∃ z : Unit,
  (q46 = (writF y)) ∧
  q35)) (
  ∃ z : Unit,
  ((ruls y x) = (writF y)) ∧
  q35)))) (
  ∃ z : Unit,
  (([] : List UInt8) = (writF y)) ∧
  q35))))))))))) ∧
  (
  ∀ x : Unit,
  (Iv True) →
  (Iv True) ∧
  Rfs [writF y] (
  Bth q24 (
  q22) (
  Bth q12 (
  q22) (
  Bth q11 (
  q22) (
  Bth q10 (
  q22) (
  Bth q9 (
  q22) (
  Bth q8 (
  q22) (
  Bth q7 (
  q22) (
  Bth q25 (
  q22) (
  (
  ∃ z : Nat,
  Rfs [writF y] (
  ((0 : Int) = ((z : Nat) : Int)) ∧
  Rfs [Sv.kind q0, Sv.n q0] (
  Rfs [Sv.name q0, Sv.to q0, Sv.data q0] (
  Rfs [Sv.rules q0] (
  Rfs [Sv.cont q0] (
  Rfs [Sv.kind y, Sv.n y] (
  Rfs [Sv.name y, Sv.to y, Sv.data y] (
  Rfs [Sv.rules y] (
  Rfs [Sv.cont y] (
  (Iv (((z : Nat) ≤ q13) ∧ (List.take z (Sv.rules q0)) = (List.take z (Sv.rules y)))))))))))))) ∧
  (
  ∀ x1 : Nat,
 let q48 := Int.toNat ((x1 : Nat) : Int);
 let q49 := ilt ((x1 : Nat) : Int) q5;
 let q50 := gt (([] : List UInt8), ([] : List UInt8)) (Sv.rules y) q48;
 let q51 := gt (([] : List UInt8), ([] : List UInt8)) (Sv.rules q0) q48;
 let q52 := Bool.not (Bool.and (seq q51.1 q50.1) (seq q51.2 q50.2));
  (Iv (((x1 : Nat) ≤ q13) ∧ (List.take x1 (Sv.rules q0)) = (List.take x1 (Sv.rules y)))) →
  Bth q49 (
  ((ile (0 : Int) ((x1 : Nat) : Int)) = true) ∧
  ((ilt ((x1 : Nat) : Int) q23) = true) ∧
  ((ile (0 : Int) ((x1 : Nat) : Int)) = true) ∧
  (q49 = true) ∧
  Rfs [Sv.rules q0] (
  Rfs [q51.1, q51.2] (
  Rfs [Sv.rules y] (
  Rfs [q50.1, q50.2] (
  Bth q52 (
  q22) (
  ∃ z : Nat,
  Rfs [writF y] (
  ((iadd .i64 ((x1 : Nat) : Int) (1 : Int)) = ((z : Nat) : Int)) ∧
  Rfs [Sv.kind q0, Sv.n q0] (
  Rfs [Sv.name q0, Sv.to q0, Sv.data q0] (
  Rfs [Sv.rules q0] (
  Rfs [Sv.cont q0] (
  Rfs [Sv.kind y, Sv.n y] (
  Rfs [Sv.name y, Sv.to y, Sv.data y] (
  Rfs [Sv.rules y] (
  Rfs [Sv.cont y] (
  (Iv ((((z : Nat) ≤ q13) ∧ (List.take z (Sv.rules q0)) = (List.take z (Sv.rules y))) ∧ ((q13 : Nat) - z : Nat) < ((q13 : Nat) - x1)))))))))))))))))) (
  ((writF y) = (lineF y)) ∧
  True))))))))))))
theorem rliV_eq : ∀ y, rliVC y = rliV y := fun y => by kernel_rfl
end Go.Proofs.YtjdehneddakpnaaGreatDoor.sx
namespace Go.Proofs.YtjdehneddakpnaaGreatDoor.sx
open Go Go.RowKit
noncomputable section
structure Out where
  why : Int
  pos : Int
  told : List Told
  recs : List Rec
end
end Go.Proofs.YtjdehneddakpnaaGreatDoor.sx
namespace Go.Proofs.YtjdehneddakpnaaGreatDoor.sx
open Go Go.RowKit
end Go.Proofs.YtjdehneddakpnaaGreatDoor.sx
namespace Go.Proofs.YtjdehneddakpnaaGreatDoor.sx
open Go Go.RowKit
noncomputable section
def inBB (args : List (AV D.E)) (s : St D.E) : C (By × By) := match args with
  | [a, b] => bnd (rowsOf D s 0 a) fun l => bnd (rowsOf D s 0 b) fun m => .ret ((l : By), (m : By))
  | _ => .fail
def sbyC : Con D := con0 18 (By × By) inBB (fun y => y.1.length ≤ 100000000) (fun y => [.list 0 y.1, .list 0 y.2]) fun y => .bool (decide (y.1 = y.2))
def sbyO (y : sbyC.Y) : Orc D := ⟨[], [], [(58, { X := Nat, keep := [0, 1], sl := fun x => [(5, .int .i64 x)], kp := [], pc := fun _ => [], nx := 0, inv := fun x => x ≤ y.1.length ∧ y.1.take x = y.2.take x, me := fun x => y.1.length - x })], [], 1, []⟩
def sbyV (y : sbyC.Y) : Prop := vc [] Tryz.f18 sbyC sbyO y
def spaC : Con D := con0 23 (List Pat × List Pat) inPP (fun y => y.1.length ≤ 100000000) (fun y => [.list 2 y.1, .list 2 y.2]) fun y => .bool (decide (y.1 = y.2))
def spaO (y : spaC.Y) : Orc D := ⟨[], [], [(58, { X := Nat, keep := [0, 1], sl := fun x => [(5, .int .i64 x)], kp := [], pc := fun _ => [], nx := 0, inv := fun x => x ≤ y.1.length ∧ y.1.take x = y.2.take x, me := fun x => y.1.length - x })], [], 1, []⟩
def spaV (y : spaC.Y) : Prop := vc [] Tryz.f23 spaC spaO y
def lsaC : Con D := con0 10 (Sv × Sv) inSv2 (fun y => y.1.data.length ≤ 100000000 ∧ y.1.rules.length ≤ 100000000) (fun y => [.agg (svL y.1), .agg (svL y.2)]) fun y => .bool (sameF y.1 y.2)
def lsaV (y : lsaC.Y) : Prop := vc [sbyC, spaC] Tryz.f10 lsaC noO y
def runsC : Con D := con0 11 Unit (fun _ _ => .ret ()) (fun _ => True) (fun _ => []) fun _ => .lit true
/-- a row with 80 more places -/
def roomF (y : By) : By := y ++ List.replicate 80 3
def roomP (y : By) (i : Nat) : By := y ++ (List.replicate i 3 ++ List.replicate (80 - i) 0)
def roomC : Con D := con0 12 By (fun args s => match args with
    | [a, _] => bnd (rowsOf D s 0 a) fun l => .ret (l : By)
    | _ => .fail) (fun y => y.length ≤ 1073741824) (fun y => [.list 0 y, .num .u8 3]) fun y => .list 0 (roomF y)
def roomO (y : roomC.Y) : Orc D := ⟨[], [], [(122, { X := Nat, keep := [1], sl := fun i => [(5, .own 0 1 ((y.length : Int) + 80)), (6, .int .i64 ((y.length : Int) + i))], kp := [], pc := fun i => [(0, .arr 0 (roomP y i) 5 false)], nx := 1, inv := fun i => i ≤ 80, me := fun i => 80 - i })], [], 1, []⟩
def roomV (y : roomC.Y) : Prop := vc [] Tryz.f12 roomC roomO y
def intaC : Con D := con0 15 By (fun args s => match args with
    | [_, a, _] => bnd (rowsOf D s 0 a) fun l => .ret (l : By)
    | _ => .fail) (fun y => y.length ≤ 10000000) (fun y => [.list 0 (roomF y), .list 0 y, .num .u8 3]) fun _ => .bool true
def intaO (y : intaC.Y) : Orc D := ⟨[], [], [(58, { X := Nat, keep := [0, 1, 2], sl := fun i => [(7, .int .i64 ((y.length : Int) + i))], kp := [], pc := fun _ => [], nx := 0, inv := fun i => i ≤ 80, me := fun i => 80 - i })], [], 1, []⟩
def intaV (y : intaC.Y) : Prop := vc [sbyC] Tryz.f15 intaC intaO y
def lawPC : Con D := con0 3 By (fun a _ => inS a) (fun _ => True) (fun y => [.str y]) fun _ => .bool true
def lawPV (y : lawPC.Y) : Prop := vc [parC, rpaC, lsaC, runsC] Tryz.f3 lawPC noO y
def bigS (y : Sv) : Prop := bulkS y ≤ 1100000 ∧ y.rules.length ≤ 1100000
def lawLC : Con D := con0 4 Sv inSv bigS (fun y => [.agg (svL y)]) fun _ => .bool true
def lawLV (y : lawLC.Y) : Prop := vc [runsC, roomC, linC, rliC, intaC] Tryz.f4 lawLC noO y
def inSvS (args : List (AV D.E)) (s : St D.E) : C (Sv × By) := match args with
  | [a, b] => bnd (inSv [a] s) fun x => bnd (asStr b) fun l => .ret (x, l)
  | _ => .fail
def lawBC : Con D := con0 6 (Sv × By) inSvS (fun y => bigS y.1) (fun y => [.agg (svL y.1), .str y.2]) fun _ => .bool true
def lawBV (y : lawBC.Y) : Prop := vc [runsC, linC, parC, lsaC] Tryz.f6 lawBC noO y
def inB (args : List (AV D.E)) (s : St D.E) : C By := match args with
  | [a] => bnd (rowsOf D s 0 a) fun l => .ret (l : By)
  | _ => .fail
def lawYC : Con D := con0 7 By inB (fun _ => True) (fun y => [.list 0 y]) fun _ => .bool true
def lawYO (y : lawYC.Y) : Orc D := ⟨[], [], [(122, { X := Nat, keep := [0, 3], sl := fun i => [(4, .int .i64 i)], kp := [], pc := fun _ => [], nx := 0, inv := fun i => i ≤ (lineF (appS (cut450 y))).length, me := fun i => (lineF (appS (cut450 y))).length - i })],
  [(3, { X := Unit, keep := [], sl := fun _ => [(0, .list 0 (cut450 y))], kp := [], pc := fun _ => [], nx := 0, inv := fun _ => True, me := fun _ => 0 })], 1, []⟩
def lawYV (y : lawYC.Y) : Prop := vc [linC, parC, sbyC, runsC] Tryz.f7 lawYC lawYO y
end
end Go.Proofs.YtjdehneddakpnaaGreatDoor.sx
namespace Go.Proofs.YtjdehneddakpnaaGreatDoor.sx
open Go Go.RowKit
def sbyVC (y : Prod (List UInt8) (List UInt8)) : Prop :=
 let q0 := List.length y.1;
 let q1 := Bool.not (ieq (llen y.1) (llen y.2));
 let q2 := Decidable.decide (y.1 = y.2);
 Bth q1 (
  (false = q2) ∧
  True) (
  (
  ∃ z : Nat,
  Rfs [y.1, y.2] (
  ((0 : Int) = ((z : Nat) : Int)) ∧
  (Iv (((z : Nat) ≤ q0) ∧ (List.take z y.1) = (List.take z y.2))))) ∧
  (
  ∀ x : Nat,
 let q3 := Int.toNat ((x : Nat) : Int);
 let q4 := ilt ((x : Nat) : Int) (llen y.1);
 let q5 := ((UInt8.toNat (gt (0 : UInt8) y.1 q3) : Nat) : Int);
 let q6 := ((UInt8.toNat (gt (0 : UInt8) y.2 q3) : Nat) : Int);
 let q7 := Bool.not (ieq q5 q6);
  (Iv (((x : Nat) ≤ q0) ∧ (List.take x y.1) = (List.take x y.2))) →
  Bth q4 (
  ((ile (0 : Int) ((x : Nat) : Int)) = true) ∧
  (q4 = true) ∧
  ((ile (0 : Int) ((x : Nat) : Int)) = true) ∧
  ((ilt ((x : Nat) : Int) (llen y.2)) = true) ∧
  Rfs [q5, q6] (
  Bth q7 (
  (false = q2) ∧
  True) (
  ∃ z : Nat,
  Rfs [y.1, y.2] (
  ((iadd .i64 ((x : Nat) : Int) (1 : Int)) = ((z : Nat) : Int)) ∧
  (Iv ((((z : Nat) ≤ q0) ∧ (List.take z y.1) = (List.take z y.2)) ∧ ((q0 : Nat) - z : Nat) < ((q0 : Nat) - x))))))) (
  (true = q2) ∧
  True)))
theorem sbyV_eq : ∀ y, sbyVC y = sbyV y := fun y => by kernel_rfl
def spaVC (y : Prod (List (Prod (List UInt8) (List UInt8))) (List (Prod (List UInt8) (List UInt8)))) : Prop :=
 let q0 := List.length y.1;
 let q1 := Bool.not (ieq (llen y.1) (llen y.2));
 let q2 := Decidable.decide (y.1 = y.2);
 Bth q1 (
  (false = q2) ∧
  True) (
  (
  ∃ z : Nat,
  Rfs [y.1, y.2] (
  ((0 : Int) = ((z : Nat) : Int)) ∧
  (Iv (((z : Nat) ≤ q0) ∧ (List.take z y.1) = (List.take z y.2))))) ∧
  (
  ∀ x : Nat,
 let q3 := Int.toNat ((x : Nat) : Int);
 let q4 := ilt ((x : Nat) : Int) (llen y.1);
 let q5 := gt (([] : List UInt8), ([] : List UInt8)) y.1 q3;
 let q6 := gt (([] : List UInt8), ([] : List UInt8)) y.2 q3;
 let q7 := Bool.not (Bool.and (seq q5.1 q6.1) (seq q5.2 q6.2));
  (Iv (((x : Nat) ≤ q0) ∧ (List.take x y.1) = (List.take x y.2))) →
  Bth q4 (
  ((ile (0 : Int) ((x : Nat) : Int)) = true) ∧
  (q4 = true) ∧
  ((ile (0 : Int) ((x : Nat) : Int)) = true) ∧
  ((ilt ((x : Nat) : Int) (llen y.2)) = true) ∧
  Rfs [q5.1, q5.2, q6.1, q6.2] (
  Bth q7 (
  (false = q2) ∧
  True) (
  ∃ z : Nat,
  Rfs [y.1, y.2] (
  ((iadd .i64 ((x : Nat) : Int) (1 : Int)) = ((z : Nat) : Int)) ∧
  (Iv ((((z : Nat) ≤ q0) ∧ (List.take z y.1) = (List.take z y.2)) ∧ ((q0 : Nat) - z : Nat) < ((q0 : Nat) - x))))))) (
  (true = q2) ∧
  True)))
theorem spaV_eq : ∀ y, spaVC y = spaV y := fun y => by kernel_rfl
def lsaVC (y : Prod Sv Sv) : Prop :=
 let q0 := sameF y.1 y.2;
 let q1 := seq (Sv.cont y.1) (Sv.cont y.2);
 let q2 := ieq (Sv.n y.1) (Sv.n y.2);
 let q3 := ieq (Sv.kind y.1) (Sv.kind y.2);
 let q4 := seq (Sv.to y.1) (Sv.to y.2);
 let q5 := seq (Sv.name y.1) (Sv.name y.2);
 let q6 := Decidable.decide ((Sv.data y.1) = (Sv.data y.2));
 Bth q3 (
  Bth q2 (
  Bth q5 (
  Bth q4 (
  (Iv ((List.length (Sv.data y.1) : Nat) ≤ 100000000)) ∧
  Rfs [Sv.data y.1, Sv.data y.2] (
  Bth q6 (
  Bth q1 (
  (Iv ((List.length (Sv.rules y.1) : Nat) ≤ 100000000)) ∧
  Rfs [Sv.rules y.1, Sv.rules y.2] (
  ((Decidable.decide ((Sv.rules y.1) = (Sv.rules y.2))) = q0) ∧
  True)) (
  (false = q0) ∧
  True)) (
  (false = q0) ∧
  True))) (
  (false = q0) ∧
  True)) (
  (false = q0) ∧
  True)) (
  (false = q0) ∧
  True)) (
  (false = q0) ∧
  True)
theorem lsaV_eq : ∀ y, lsaVC y = lsaV y := fun y => by kernel_rfl
def roomVC (y : List UInt8) : Prop :=
 let q0 := ((List.length y : Nat) : Int);
 let q1 := iadd .i64 (llen y) (80 : Int);
 let q2 := lrep q1 (b8 (0 : Int));
 ((ile (0 : Int) q1) = true) ∧
 ((ile q1 q1) = true) ∧
 ((fits q1 1) = true) ∧
 (
  ∃ z : Nat,
  ((llen q2) = ((q0 : Int) + (80 : Int))) ∧
  ((llen y) = ((q0 : Int) + ((z : Nat) : Int))) ∧
  ((lover q2 (0 : Int) (llen q2) y) = (roomP y z)) ∧
  (Iv ((z : Nat) ≤ 80))) ∧
 (
  ∀ x : Nat,
 let q3 := roomP y x;
 let q4 := ilt ((q0 : Int) + ((x : Nat) : Int)) ((q0 : Int) + (80 : Int));
  (Iv ((x : Nat) ≤ 80)) →
  Bth q4 (
  ((ile (0 : Int) ((q0 : Int) + ((x : Nat) : Int))) = true) ∧
  (q4 = true) ∧
  ∃ z : Nat,
  Rfs [(q0 : Int) + (80 : Int)] (
  ((iadd .i64 ((q0 : Int) + ((x : Nat) : Int)) (1 : Int)) = ((q0 : Int) + ((z : Nat) : Int))) ∧
  ((lset q3 (Int.toNat ((q0 : Int) + ((x : Nat) : Int))) (b8 (3 : Int))) = (roomP y z)) ∧
  (Iv (((z : Nat) ≤ 80) ∧ ((80 : Nat) - z : Nat) < ((80 : Nat) - x))))) (
  (q3 = (roomF y)) ∧
  True))
theorem roomV_eq : ∀ y, roomVC y = roomV y := fun y => by kernel_rfl
def intaVC (y : List UInt8) : Prop :=
 let q0 := llen (roomF y);
 let q1 := ((List.length y : Nat) : Int);
 let q2 := ltake (roomF y) (llen y);
 let q3 := Bool.not (ieq q0 (iadd .i64 (llen y) (80 : Int)));
 let q4 := Bool.not (Decidable.decide (q2 = y));
 Bth q3 (
  (false = true) ∧
  True) (
  ((ile (0 : Int) (llen y)) = true) ∧
  ((ile (llen y) q0) = true) ∧
  (Iv ((List.length q2 : Nat) ≤ 100000000)) ∧
  Rfs [q2, y] (
  Bth q4 (
  (false = true) ∧
  True) (
  (
  ∃ z : Nat,
  Rfs [roomF y, y] (
  ((llen y) = ((q1 : Int) + ((z : Nat) : Int))) ∧
  (Iv ((z : Nat) ≤ 80)))) ∧
  (
  ∀ x : Nat,
 let q5 := ilt ((q1 : Int) + ((x : Nat) : Int)) q0;
 let q6 := Bool.not (ieq ((UInt8.toNat (gt (0 : UInt8) (roomF y) (Int.toNat ((q1 : Int) + ((x : Nat) : Int)))) : Nat) : Int) (3 : Int));
  (Iv ((x : Nat) ≤ 80)) →
  Bth q5 (
  ((ile (0 : Int) ((q1 : Int) + ((x : Nat) : Int))) = true) ∧
  (q5 = true) ∧
  Bth q6 (
  (false = true) ∧
  True) (
  ∃ z : Nat,
  Rfs [roomF y, y] (
  ((iadd .i64 ((q1 : Int) + ((x : Nat) : Int)) (1 : Int)) = ((q1 : Int) + ((z : Nat) : Int))) ∧
  (Iv (((z : Nat) ≤ 80) ∧ ((80 : Nat) - z : Nat) < ((80 : Nat) - x)))))) (
  Tt 1 (
  True))))))
theorem intaV_eq : ∀ y, intaVC y = intaV y := fun y => by kernel_rfl
def lawPVC (y : List UInt8) : Prop :=
 let q0 := sameF (parseF y) (parseF y);
 let q1 := ieq (parseN y) (parseN y);
 (Iv True) ∧
 Rfs [y] (
  (Iv True) ∧
  Rfs [y] (
  (Iv (((List.length (Sv.data (parseF y)) : Nat) ≤ 100000000) ∧ (List.length (Sv.rules (parseF y)) : Nat) ≤ 100000000)) ∧
  Rfs [Sv.kind (parseF y), Sv.n (parseF y)] (
  Rfs [Sv.name (parseF y), Sv.to (parseF y), Sv.data (parseF y)] (
  Rfs [Sv.rules (parseF y)] (
  Rfs [Sv.cont (parseF y)] (
  Rfs [Sv.kind (parseF y), Sv.n (parseF y)] (
  Rfs [Sv.name (parseF y), Sv.to (parseF y), Sv.data (parseF y)] (
  Rfs [Sv.rules (parseF y)] (
  Rfs [Sv.cont (parseF y)] (
  Bth q0 (
  Bth q1 (
  (Iv True) ∧
  Tt 1 (
  True)) (
  (false = true) ∧
  True)) (
  (false = true) ∧
  True)))))))))))
theorem lawPV_eq : ∀ y, lawPVC y = lawPV y := fun y => by kernel_rfl
def lawLVC (y : Sv) : Prop :=
 let q0 := roomF (Sv.data y);
 let q1 := llen (Sv.data y);
 let q2 := List.length (Sv.data y);
 let q3 := ltake q0 q1;
 let q4 := ilt (1000 : Int) q1;
 let q5 := ilt (20 : Int) (llen (Sv.rules y));
 let q6 := Sv.mk (Sv.kind y) (Sv.n y) (Sv.name y) (Sv.to y) q3 (Sv.rules y) (Sv.cont y);
 let q7 := seq (lineF q6) (lineF y);
 Bth q4 (
  (Iv True) ∧
  Tt 1 (
  True)) (
  Bth q5 (
  (Iv True) ∧
  Tt 1 (
  True)) (
  (Iv ((q2 : Nat) ≤ 1073741824)) ∧
  Rfs [Sv.data y] (
  ((ile (0 : Int) q1) = true) ∧
  ((ile q1 (llen q0)) = true) ∧
  (Iv (midS q6)) ∧
  Rfs [Sv.kind y, Sv.n y] (
  Rfs [Sv.name y, Sv.to y, q3] (
  Rfs [Sv.rules y] (
  Rfs [Sv.cont y] (
  (Iv (midS y)) ∧
  Rfs [Sv.kind y, Sv.n y] (
  Rfs [Sv.name y, Sv.to y, Sv.data y] (
  Rfs [Sv.rules y] (
  Rfs [Sv.cont y] (
  Bth q7 (
  (Iv ((q2 : Nat) ≤ 10000000)) ∧
  Rfs [q0, Sv.data y] (
  Bth true (
  (Iv True) ∧
  Rfs [Sv.kind y, Sv.n y] (
  Rfs [Sv.name y, Sv.to y, q3] (
  Rfs [Sv.rules y] (
  Rfs [Sv.cont y] (
  Rfs [Sv.kind y, Sv.n y] (
  Rfs [Sv.name y, Sv.to y, Sv.data y] (
  Rfs [Sv.rules y] (
  Rfs [Sv.cont y] (
  Rfs [Sv.kind y, Sv.n y] (
  Rfs [Sv.name y, Sv.to y, Sv.data y] (
  Rfs [Sv.rules y] (
  Rfs [Sv.cont y, Sv.data y] (
  Tt 1 (
  True)))))))))))))) (
  Rfs [Sv.kind y, Sv.n y] (
  Rfs [Sv.name y, Sv.to y, q3] (
  Rfs [Sv.rules y] (
  Rfs [Sv.cont y] (
  Rfs [Sv.kind y, Sv.n y] (
  Rfs [Sv.name y, Sv.to y, Sv.data y] (
  Rfs [Sv.rules y] (
  Rfs [Sv.cont y] (
  Rfs [Sv.kind y, Sv.n y] (
  Rfs [Sv.name y, Sv.to y, Sv.data y] (
  Rfs [Sv.rules y] (
  Rfs [Sv.cont y, Sv.data y] (
  (false = true) ∧
  True))))))))))))))) (
  Rfs [Sv.kind y, Sv.n y] (
  Rfs [Sv.name y, Sv.to y, q3] (
  Rfs [Sv.rules y] (
  Rfs [Sv.cont y] (
  Rfs [Sv.kind y, Sv.n y] (
  Rfs [Sv.name y, Sv.to y, Sv.data y] (
  Rfs [Sv.rules y] (
  Rfs [Sv.cont y] (
  Rfs [Sv.kind y, Sv.n y] (
  Rfs [Sv.name y, Sv.to y, Sv.data y] (
  Rfs [Sv.rules y] (
  Rfs [Sv.cont y] (
  (false = true) ∧
  True))))))))))))))))))))))))
theorem lawLV_eq : ∀ y, lawLVC y = lawLV y := fun y => by kernel_rfl
def lawBVC (y : Prod Sv (List UInt8)) : Prop :=
 let q0 := lineF y.1;
 let q1 := parseF y.2;
 let q2 := parseF q0;
 let q3 := parseF (lineF q1);
 let q4 := seq (lineF q1) ([] : List UInt8);
 let q5 := Bool.not (seq q0 ([] : List UInt8));
 let q6 := Bool.not (ieq (parseN y.2) (0 : Int));
 let q7 := Bool.not (sameF q2 y.1);
 let q8 := ilt (1000 : Int) (llen (Sv.data y.1));
 let q9 := ieq (parseN (lineF q1)) (0 : Int);
 let q10 := sameF q1 q3;
 let q11 := Bool.not (ieq (parseN q0) (0 : Int));
 let q12 := ilt (20 : Int) (llen (Sv.rules y.1));
 let q13 := sameF q1 (Sv.mk (0 : Int) (0 : Int) ([] : List UInt8) ([] : List UInt8) ([] : List UInt8) ([] : List (Prod (List UInt8) (List UInt8))) ([] : List UInt8));
 let q14 : Prop := (
 (Iv True) ∧
 Rfs [y.2] (
  Bth q6 (
  (Iv (((List.length (Sv.data q1) : Nat) ≤ 100000000) ∧ (List.length (Sv.rules q1) : Nat) ≤ 100000000)) ∧
  Rfs [Sv.kind q1, Sv.n q1] (
  Rfs [Sv.name q1, Sv.to q1, Sv.data q1] (
  Rfs [Sv.rules q1] (
  Rfs [Sv.cont q1] (
  Rfs ([(0 : Int), (0 : Int)] : List Int) (
  Rfs [([] : List UInt8), ([] : List UInt8), ([] : List UInt8)] (
  Rfs [([] : List (Prod (List UInt8) (List UInt8)))] (
  Rfs [([] : List UInt8)] (
  Bth q13 (
  (Iv True) ∧
  Tt 1 (
  True)) (
  (false = true) ∧
  True)))))))))) (
  (Iv (midS q1)) ∧
  Rfs [Sv.kind q1, Sv.n q1] (
  Rfs [Sv.name q1, Sv.to q1, Sv.data q1] (
  Rfs [Sv.rules q1] (
  Rfs [Sv.cont q1] (
  (Iv True) ∧
  Rfs [lineF q1] (
  Bth q4 (
  (Iv True) ∧
  Tt 1 (
  True)) (
  Bth q9 (
  (Iv (((List.length (Sv.data q1) : Nat) ≤ 100000000) ∧ (List.length (Sv.rules q1) : Nat) ≤ 100000000)) ∧
  Rfs [Sv.kind q1, Sv.n q1] (
  Rfs [Sv.name q1, Sv.to q1, Sv.data q1] (
  Rfs [Sv.rules q1] (
  Rfs [Sv.cont q1] (
  Rfs [Sv.kind q3, Sv.n q3] (
  Rfs [Sv.name q3, Sv.to q3, Sv.data q3] (
  Rfs [Sv.rules q3] (
  Rfs [Sv.cont q3] (
  Bth q10 (
  (Iv True) ∧
  Tt 1 (
  True)) (
  (false = true) ∧
  True)))))))))) (
  (false = true) ∧
  True))))))))));
 Bth q8 (
  (Iv True) ∧
  Tt 1 (
  True)) (
  Bth q12 (
  (Iv True) ∧
  Tt 1 (
  True)) (
  (Iv (midS y.1)) ∧
  Rfs [Sv.kind y.1, Sv.n y.1] (
  Rfs [Sv.name y.1, Sv.to y.1, Sv.data y.1] (
  Rfs [Sv.rules y.1] (
  Rfs [Sv.cont y.1] (
  Bth q5 (
  (Iv True) ∧
  Rfs [q0] (
  Bth q11 (
  (false = true) ∧
  True) (
  (Iv (((List.length (Sv.data q2) : Nat) ≤ 100000000) ∧ (List.length (Sv.rules q2) : Nat) ≤ 100000000)) ∧
  Rfs [Sv.kind q2, Sv.n q2] (
  Rfs [Sv.name q2, Sv.to q2, Sv.data q2] (
  Rfs [Sv.rules q2] (
  Rfs [Sv.cont q2] (
  Rfs [Sv.kind y.1, Sv.n y.1] (
  Rfs [Sv.name y.1, Sv.to y.1, Sv.data y.1] (
  Rfs [Sv.rules y.1] (
  Rfs [Sv.cont y.1] (
  Bth q7 (
  (false = true) ∧
  True) (
  q14)))))))))))) (
  q14)))))))
theorem lawBV_eq : ∀ y, lawBVC y = lawBV y := fun y => by kernel_rfl
def lawYVC (y : List UInt8) : Prop :=
 let q0 := List.length (lineF (appS (cut450 y)));
 let q1 := ilt (450 : Int) (llen y);
 let q2 := Sv.mk (2 : Int) (0 : Int) ((108 : UInt8) :: ((111 : UInt8) :: ((103 : UInt8) :: ([] : List UInt8)))) ([] : List UInt8) (cut450 y) ([] : List (Prod (List UInt8) (List UInt8))) ([] : List UInt8);
 let q3 := parseF (lineF q2);
 let q4 := slen (lineF q2);
 let q5 := Bool.not (seq (lineF q2) ([] : List UInt8));
 let q6 := ieq (parseN (lineF q2)) (0 : Int);
 let q7 := seq (Sv.name q3) ((108 : UInt8) :: ((111 : UInt8) :: ((103 : UInt8) :: ([] : List UInt8))));
 let q8 := Decidable.decide ((Sv.data q3) = (cut450 y));
 (
  Bth q1 (
  Tt 1 (
  ((ile (450 : Int) (llen y)) = true) ∧
  ∃ z : Unit,
  ((ltake y (450 : Int)) = (cut450 y)) ∧
  (Iv True))) (
  ∃ z : Unit,
  (y = (cut450 y)) ∧
  (Iv True))) ∧
 (
  ∀ x : Unit,
  (Iv True) →
  (Iv (midS q2)) ∧
  Rfs ([(2 : Int), (0 : Int)] : List Int) (
  Rfs [((108 : UInt8) :: ((111 : UInt8) :: ((103 : UInt8) :: ([] : List UInt8)))), ([] : List UInt8), cut450 y] (
  Rfs [([] : List (Prod (List UInt8) (List UInt8)))] (
  Rfs [([] : List UInt8)] (
  (
  ∃ z : Nat,
  Rfs [cut450 y, lineF q2] (
  ((0 : Int) = ((z : Nat) : Int)) ∧
  (Iv ((z : Nat) ≤ q0)))) ∧
  (
  ∀ x1 : Nat,
 let q9 := sat (lineF q2) ((x1 : Nat) : Int);
 let q10 := ilt ((x1 : Nat) : Int) q4;
 let q11 := ilt (126 : Int) q9;
 let q12 := ilt q9 (32 : Int);
  (Iv ((x1 : Nat) ≤ q0)) →
  Bth q10 (
  ((ile (0 : Int) ((x1 : Nat) : Int)) = true) ∧
  (q10 = true) ∧
  Bth q12 (
  (false = true) ∧
  True) (
  ((ile (0 : Int) ((x1 : Nat) : Int)) = true) ∧
  (q10 = true) ∧
  Bth q11 (
  (false = true) ∧
  True) (
  ∃ z : Nat,
  Rfs [cut450 y, lineF q2] (
  ((iadd .i64 ((x1 : Nat) : Int) (1 : Int)) = ((z : Nat) : Int)) ∧
  (Iv (((z : Nat) ≤ q0) ∧ ((q0 : Nat) - z : Nat) < ((q0 : Nat) - x1))))))) (
  (Iv True) ∧
  Rfs [lineF q2] (
  Bth q5 (
  Bth q6 (
  (Iv ((List.length (Sv.data q3) : Nat) ≤ 100000000)) ∧
  Rfs [Sv.data q3, cut450 y] (
  Bth q8 (
  Bth q7 (
  (Iv True) ∧
  Tt 1 (
  True)) (
  (false = true) ∧
  True)) (
  (false = true) ∧
  True))) (
  (false = true) ∧
  True)) (
  (false = true) ∧
  True)))))))))
theorem lawYV_eq : ∀ y, lawYVC y = lawYV y := fun y => by kernel_rfl
end Go.Proofs.YtjdehneddakpnaaGreatDoor.sx
namespace Go.Proofs.YtjdehneddakpnaaGreatDoor.sx
open Go Go.RowKit
set_option maxRecDepth 100000
theorem isub8 {a b : Int} (h1 : 0 ≤ a - b) (h2 : a - b ≤ 255) : isub .u8 a b = a - b := inR_wrap (inR_iff.2 ⟨h1, h2⟩)
theorem icvI {a : Int} (h1 : -9223372036854775808 ≤ a) (h2 : a ≤ 9223372036854775807) : icv .i64 a = a := inR_wrap (inR64.2 ⟨h1, h2⟩)
theorem iaddU {a b : Int} (h1 : 0 ≤ a + b) (h2 : a + b ≤ 18446744073709551615) : iadd .u64 a b = a + b := inR_wrap (inRu64.2 ⟨h1, h2⟩)
theorem b8_of {y : Int} (h : isB y) : ((b8 y).toNat : Int) = y := by
  unfold b8
  rw [UInt8.toNat_ofNat']
  obtain ⟨h1, h2⟩ := h
  omega
theorem hexH (y : Int) (hy : hexC.pre y) : hexVC y := by
  have hy : isB y := hy
  have hb := b8_of hy
  obtain ⟨y1, y2⟩ := hy
  unfold hexVC
  simp only [Bth_eq, and_true, ile_t, ile_f]
  unfold hexF
  refine ⟨fun h1 => ⟨fun h2 => ?_, fun h2 => ⟨fun h3 => ⟨fun h4 => ?_, fun h4 => ?_⟩, fun h3 => ?_⟩⟩, fun h1 => ⟨fun h3 => ⟨fun h4 => ?_, fun h4 => ?_⟩, fun h3 => ?_⟩⟩
  · rw [if_pos (by omega), isub8 (by omega) (by omega), icvI (by omega) (by omega)]; omega
  · rw [if_neg (by omega), if_pos (by omega), isub8 (by omega) (by omega), icvI (by omega) (by omega), iadd64 (by omega) (by omega)]; omega
  · rw [if_neg (by omega), if_neg (by omega)]
  · rw [if_neg (by omega), if_neg (by omega)]
  · rw [if_neg (by omega), if_pos (by omega), isub8 (by omega) (by omega), icvI (by omega) (by omega), iadd64 (by omega) (by omega)]; omega
  · rw [if_neg (by omega), if_neg (by omega)]
  · rw [if_neg (by omega), if_neg (by omega)]
theorem hexOk : Ok hexC := okW hexV_eq trivial hexH
/-- a word that is read: what stands behind place i, with what was read -/
def QR (s : By) (b i : Nat) (out : By) : Prop := qG (s.drop b) = (qG (s.drop i)).map fun r => (out ++ r.1, r.2 + (i - b))
theorem QR.none {s : By} {b i : Nat} {out : By} (h : QR s b i out) (e : qG (s.drop i) = none) : qG (s.drop b) = none := by rw [h, e]; rfl
theorem QR.done {s : By} {b i : Nat} {out t : By} (h : QR s b i out) (e : s.drop i = 34 :: t) : qG (s.drop b) = some (out, 1 + (i - b)) := by
  rw [h, e, qG_cons, if_pos rfl]
  simp
theorem QR.plain {s : By} {b i : Nat} {out : By} {c : UInt8} (h : QR s b i out) (hb : b ≤ i) (e : s.drop i = c :: s.drop (i + 1)) (h1 : c ≠ 34) (h2 : c ≠ 92) (h3 : ¬ (c.toNat < 32 ∨ 126 < c.toNat)) : QR s b (i + 1) (out ++ [c]) := by
  unfold QR
  rw [h, e, qG_cons, if_neg h1, if_neg h2, if_neg h3, Option.map_map]
  congr 1
  funext r
  simp only [Function.comp, List.append_assoc, List.singleton_append, Prod.mk.injEq]
  exact ⟨trivial, by omega⟩
theorem QR.sign {s : By} {b i n : Nat} {out t : By} {v : UInt8} (h : QR s b i out) (hb : b ≤ i) (e : s.drop i = 92 :: t) (hs : signF (92 :: t) = (v, n)) (hn : n ≠ 0) : QR s b (i + n) (out ++ [v]) := by
  have e2 : s.drop (i + n) = (92 :: t).drop n := by rw [← e, List.drop_drop]
  unfold QR
  rw [h, e, qG_cons, if_neg (by decide), if_pos rfl, hs, if_neg (by exact hn), Option.map_map, e2]
  congr 1
  funext r
  simp only [Function.comp, List.append_assoc, List.singleton_append, Prod.mk.injEq]
  exact ⟨trivial, by omega⟩
theorem QR.nosign {s : By} {b i : Nat} {out t : By} (h : QR s b i out) (e : s.drop i = 92 :: t) (hs : (signF (92 :: t)).2 = 0) : qG (s.drop b) = Option.none := by
  refine h.none ?_
  rw [e, qG_cons, if_neg (by decide), if_pos rfl, if_pos hs]
theorem quotF_at (s : By) (a : Nat) : quotF (s.drop a) = match qG (s.drop (a + 1)) with
    | some r => (r.1, r.2 + 1)
    | none => ([], 0) := by
  rw [quotF_qG, List.drop_drop]; rfl
theorem rqu_bad {s : By} {a : Int} (ha : 0 ≤ a) (h : qG (s.drop (a.toNat + 1)) = none) : [] = (quotF (s.drop a.toNat)).1 ∧ -1 = rqN s a := by
  unfold rqN
  rw [quotF_at, h]
  exact ⟨rfl, rfl⟩
theorem rqu_good {s : By} {a : Int} {out : By} {i : Nat} (ha : 0 ≤ a) (hi : a + 1 ≤ i) (h : qG (s.drop (a.toNat + 1)) = some (out, 1 + (i - (a.toNat + 1)))) : out = (quotF (s.drop a.toNat)).1 ∧ (i : Int) + 1 = rqN s a := by
  unfold rqN
  rw [quotF_at, h]
  refine ⟨rfl, ?_⟩
  simp only
  rw [if_neg (by omega)]
  omega
theorem rquH (y : By × Int) (hy : rquC.pre y) : rquVC y := by
  obtain ⟨s, a⟩ := y
  obtain ⟨y1, y2, y3⟩ : 0 ≤ a ∧ a < s.length ∧ s.length ≤ 2000 := hy
  unfold rquVC
  simp only [Rfs_eq, Bth_eq, and_true, ile_t, ile_f, ilt_t, ilt_f, ieq_t, ieq_f, Bool.not_eq_true', Bool.not_eq_false', slen_eq, llen_eq, lcat_eq, fits_t]
  refine ⟨⟨(a.toNat + 1, []), rfl, by rw [iadd64 (by omega) (by omega)]; omega, ⟨by simp only; omega, by simp only; omega, by simp, by simp⟩⟩, fun x hx => ?_⟩
  obtain ⟨i, out⟩ := x
  obtain ⟨h1, h2, h3, h4⟩ : rquI (s, a) i out := hx.out
  have h1 : a + 1 ≤ i := h1
  have h2 : i ≤ s.length := h2
  have h3 : out.length < i := h3
  have h4 : QR s (a.toNat + 1) i out := h4
  have e1 : iadd .i64 (i : Int) 1 = ((i + 1 : Nat) : Int) := iadd64 (by omega) (by omega)
  have e2 : iadd .i64 ((i + 1 : Nat) : Int) 1 = ((i + 2 : Nat) : Int) := iadd64 (by omega) (by omega)
  have e3 : iadd .i64 ((i + 2 : Nat) : Int) 1 = ((i + 3 : Nat) : Int) := iadd64 (by omega) (by omega)
  have e4 : iadd .i64 ((i + 2 : Nat) : Int) 2 = ((i + 4 : Nat) : Int) := iadd64 (by omega) (by omega)
  simp only [e1, e2, e3, e4, sat_nat, b8_nat]
  have bad : qG (s.drop (a.toNat + 1)) = none → [] = (quotF (s.drop a.toNat)).1 ∧ -1 = rqN s a := rqu_bad y1
  refine ⟨fun hi => ⟨by omega, hi, fun hc => ?_, fun hc => ⟨fun hl => bad ?_, fun hl => ⟨fun hg => bad ?_, fun hg => ⟨fun hp => ?_, fun hp => ⟨fun hj => bad ?_, fun hj => ?_⟩⟩⟩⟩⟩, fun hi => bad ?_⟩
  all_goals (try (have hd := drop_cons (0 : UInt8) (show i < s.length by omega)))
  · have e : s.getD i 0 = 34 := byte_eq.1 hc
    have := rqu_good y1 (by omega) (h4.done (by rw [hd, e]))
    exact ⟨this.1, by omega⟩
  · refine h4.none ?_
    rw [hd, qG_cons, if_neg (fun e => hc (by rw [e]; rfl)), if_neg (fun e => by rw [e] at hl; revert hl; decide), if_pos (by omega)]
  · refine h4.none ?_
    rw [hd, qG_cons, if_neg (fun e => hc (by rw [e]; rfl)), if_neg (fun e => by rw [e] at hg; revert hg; decide), if_pos (by omega)]
  · refine ⟨by simp; omega, (i + 1, out ++ [s.getD i 0]), rfl, rfl, ⟨⟨by simp only; omega, by simp only; omega, by simp; omega, ?_⟩, by simp only; omega⟩⟩
    exact h4.plain (by omega) hd (fun e => hc (by rw [e]; rfl)) (fun e => hp (by rw [e]; rfl)) (by omega)
  · have e : s.getD i 0 = 92 := byte_eq.1 hp
    rw [e, List.drop_eq_nil_of_le (show s.length ≤ i + 1 by omega)] at hd
    exact h4.nosign hd rfl
  · have e : s.getD i 0 = 92 := byte_eq.1 hp
    have hd2 := drop_cons (0 : UInt8) (show i + 1 < s.length by omega)
    rw [e, hd2] at hd
    generalize hc2 : s.getD (i + 1) 0 = c at *
    have nx : ∀ (n : Nat) (v : UInt8), n ≤ s.length - i → 2 ≤ n → signF (92 :: c :: s.drop (i + 2)) = (v, n) → (((out ++ [v]).length : Nat) : Int) * ((1 : Nat) : Int) ≤ 140737488355328 ∧ ∃ z : Nat × By, out ++ [v] = z.2 ∧ ((i + n : Nat) : Int) = (z.1 : Int) ∧ Iv (rquI (s, a) z.1 z.2 ∧ s.length - z.1 < s.length - i) := fun n v hn h2 hs =>
      ⟨by simp; omega, (i + n, out ++ [v]), rfl, rfl, ⟨⟨by simp only; omega, by simp only; omega, by simp; omega, h4.sign (by omega) hd hs (by omega)⟩, by simp only; omega⟩⟩
    refine ⟨by omega, by omega, fun k1 => ⟨fun _ => ?_, fun k => absurd k1 k⟩, fun k1 => ⟨fun k2 => ?_, fun k2 => ⟨fun k3 => ?_, fun k3 => ⟨fun k4 => ?_, fun k4 => ⟨fun k5 => ?_, fun k5 => ⟨fun k6 => ?_, fun k6 => ?_⟩⟩⟩⟩⟩⟩
    · have e : c = 34 := byte_eq.1 k1
      exact nx 2 c (by omega) (by omega) (by rw [e]; rfl)
    · have e : c = 92 := byte_eq.1 k2
      exact nx 2 c (by omega) (by omega) (by rw [e]; rfl)
    · have e : c = 110 := byte_eq.1 k3
      exact nx 2 10 (by omega) (by omega) (by rw [e]; rfl)
    · have e : c = 116 := byte_eq.1 k4
      exact nx 2 9 (by omega) (by omega) (by rw [e]; rfl)
    · have e : c = 114 := byte_eq.1 k5
      exact nx 2 13 (by omega) (by omega) (by rw [e]; rfl)
    · have e : c = 120 := byte_eq.1 k6
      subst e
      refine ⟨fun k7 => bad (h4.nosign hd ?_), fun k7 => ?_⟩
      · have hl : (s.drop (i + 2)).length < 2 := by rw [List.length_drop]; omega
        match hm : s.drop (i + 2), hl with
        | [], _ => rfl
        | [_], _ => rfl
      · have hd3 := drop_cons (0 : UInt8) (show i + 2 < s.length by omega)
        have hd4 := drop_cons (0 : UInt8) (show i + 3 < s.length by omega)
        rw [hd4] at hd3
        generalize s.getD (i + 2) 0 = u at *
        generalize s.getD (i + 3) 0 = v at *
        have hu := hex_b u
        have hv := hex_b v
        have bu := u.toNat_lt
        have bv := v.toNat_lt
        rw [hd3] at hd nx
        have hS : signF (92 :: 120 :: u :: v :: s.drop (i + 4)) = if 0 ≤ hexF u ∧ 0 ≤ hexF v then (UInt8.ofNat (16 * hexF u + hexF v).toNat, 4) else (0, 0) := rfl
        refine ⟨by omega, by omega, ⟨by omega, by omega⟩, fun k8 => bad (h4.nosign hd ?_), fun k8 => ⟨by omega, by omega, ⟨by omega, by omega⟩, fun k9 => bad (h4.nosign hd ?_), fun k9 => ⟨by omega, by omega, ⟨by omega, by omega⟩, by omega, by omega, ⟨by omega, by omega⟩, ?_⟩⟩⟩
        · rw [hS, if_neg (by omega)]
        · rw [hS, if_neg (by omega)]
        · have hb : b8 (icv .u8 (iadd .i64 (imul .i64 16 (hexF u)) (hexF v))) = UInt8.ofNat (16 * hexF u + hexF v).toNat := by
            rw [hex_byte k8 hu.2 k9 hv.2]
            unfold b8
            congr 1
            omega
          rw [hb]
          exact nx 4 _ (by omega) (by omega) (by rw [hS, if_pos ⟨k8, k9⟩])
    · refine bad (h4.nosign hd ?_)
      have n1 : c ≠ 34 := fun e => k1 (by rw [e]; rfl)
      have n2 : c ≠ 92 := fun e => k2 (by rw [e]; rfl)
      have n3 : c ≠ 110 := fun e => k3 (by rw [e]; rfl)
      have n4 : c ≠ 116 := fun e => k4 (by rw [e]; rfl)
      have n5 : c ≠ 114 := fun e => k5 (by rw [e]; rfl)
      have n6 : c ≠ 120 := fun e => k6 (by rw [e]; rfl)
      unfold signF
      simp only
      rw [if_neg (by simp [n1, n2]), if_neg n3, if_neg n4, if_neg n5, if_neg n6]
  · refine h4.none ?_
    rw [List.drop_eq_nil_of_le (by omega)]; rfl
theorem rquOk : Ok rquC := okW rquV_eq hexOk rquH
/-- behind a word, by places -/
theorem rwo_tail {y : By} {i n : Nat} {out : List Wd} {x : By} {q : Bool} (hI : rwoI y i out) (hx : (wordF (y.drop i)).1 = x) (hn : (wordF (y.drop i)).2 = n) (hq : isQ (y.drop i) = q) (h0 : n ≠ 0) :
    i + n ≤ y.length ∧ (i + n = y.length → out ++ [(x, q)] = wordsF y ∧ true = wordsE y) ∧
    (i + n ≠ y.length → (sat y ((i + n : Nat) : Int) ≠ 32 → [] = wordsF y ∧ false = wordsE y) ∧ (sat y ((i + n : Nat) : Int) = 32 → Iv (rwoI y (i + n + 1) (out ++ [(x, q)]) ∧ y.length + 1 - (i + n + 1) < y.length + 1 - i))) := by
  obtain ⟨g1, g2, g3⟩ := hI
  subst hx hn hq
  obtain ⟨k1, k2⟩ := wor_step g3 h0
  have hw := wordF_le (y.drop i)
  rw [List.length_drop] at hw
  refine ⟨by omega, fun e => wor_end (k1 (by rw [List.drop_drop]; exact List.drop_eq_nil_of_le (by omega))), fun e => ?_⟩
  have hd := drop_cons (0 : UInt8) (show i + (wordF (y.drop i)).2 < y.length by omega)
  obtain ⟨k3, k4⟩ := k2 _ _ ((List.drop_drop ..).trans hd)
  rw [sat_nat]
  exact ⟨fun hc => wor_bad (k4 fun e => hc (by rw [e]; rfl)), fun hc => ⟨⟨by omega, by simp; omega, k3 (byte_eq.1 hc)⟩, by omega⟩⟩
theorem rwo_bad {y : By} {i : Nat} {out : List Wd} (hI : rwoI y i out) (hn : (wordF (y.drop i)).2 = 0) : [] = wordsF y ∧ false = wordsE y := wor_bad (wor_none hI.2.2 hn)
theorem rqN_w {y : By} {i : Nat} (hq : isQ (y.drop i) = true) : rqN y (i : Int) = if (wordF (y.drop i)).2 = 0 then -1 else ((i + (wordF (y.drop i)).2 : Nat) : Int) := by
  have e : wordF (y.drop i) = quotF (y.drop i) := by unfold wordF; rw [hq]; rfl
  unfold rqN
  rw [e, Int.toNat_natCast]
  split <;> omega
theorem isQ_at {y : By} {i : Nat} (h : i < y.length) : isQ (y.drop i) = decide (y.getD i 0 = 34) := by
  unfold isQ
  rw [drop_cons 0 h]
  simp
theorem ar1 {i j p : Nat} (h : i ≤ j) : (j - i) + (p + 1) = (j + 1 - i) + p := by omega
theorem pickQ {p r r' b1 b2 A Q s : Prop} (hQ : s → Q) (h0 : r → b1 ∧ b2) (hA : r → p → A) (h1 : r → ¬ p → s) (h2 : r' → s) : (r → b1 ∧ b2 ∧ (p → A) ∧ (¬ p → Q)) ∧ (r' → Q) :=
  ⟨fun h => ⟨(h0 h).1, (h0 h).2, hA h, fun k => hQ (h1 h k)⟩, fun h => hQ (h2 h)⟩
theorem rwoH (y : By) (hy : rwoC.pre y) : rwoVC y := by
  have hy : y.length ≤ 2000 := hy
  unfold rwoVC
  simp only [Rfs_eq, Bth_eq, and_true, ile_t, ile_f, ilt_t, ilt_f, ieq_t, ieq_f, Bool.not_eq_true', Bool.not_eq_false', slen_eq, llen_eq, lcat_eq, fits_t, ltake_nat, ldrop_nat]
  refine ⟨⟨(0, []), rfl, rfl, ⟨by omega, by simp, by show wordsM y = (wordsM y).map _; simp⟩⟩, fun x hx => ?_⟩
  obtain ⟨i, out⟩ := x
  have hI : rwoI y i out := hx.out
  obtain ⟨g1, g2, g3⟩ := hx.out
  have g1 : i ≤ y.length := g1
  have g2 : out.length ≤ i := g2
  simp only at hI ⊢
  have plain : isQ (y.drop i) = false → ∀ (j : Nat), i ≤ j → j ≤ y.length → plainF (y.drop i) = (j - i) + plainF (y.drop j) → plainF (y.drop j) = 0 →
      ((wordF (y.drop i)).1 = (y.take j).drop i ∧ (wordF (y.drop i)).2 = j - i) := fun hq j h1 h2 h3 h4 => by
    have e : wordF (y.drop i) = ((y.drop i).take (plainF (y.drop i)), plainF (y.drop i)) := by unfold wordF; rw [hq]; rfl
    rw [e, h3, h4, List.drop_take]
    exact ⟨rfl, rfl⟩
  have ends : isQ (y.drop i) = false → ∀ (j : Nat), i ≤ j → j ≤ y.length → plainF (y.drop i) = (j - i) + plainF (y.drop j) → plainF (y.drop j) = 0 →
      ((j : Int) = i → [] = wordsF y ∧ false = wordsE y) ∧ ((j : Int) ≠ i → 0 ≤ (j : Int) ∧ (j : Int) ≤ y.length ∧ 0 ≤ (i : Int) ∧ (i : Int) ≤ ((y.take j).length : Nat) ∧ (((out ++ [((y.take j).drop i, false)]).length : Nat) : Int) * ((24 : Nat) : Int) ≤ 140737488355328 ∧
        ((j : Int) = y.length → out ++ [((y.take j).drop i, false)] = wordsF y ∧ true = wordsE y) ∧ ((j : Int) ≠ y.length → 0 ≤ (j : Int) ∧ (j : Int) < y.length ∧ (sat y (j : Int) ≠ 32 → [] = wordsF y ∧ false = wordsE y) ∧
          (sat y (j : Int) = 32 → ∃ z : Nat × List Wd, out ++ [((y.take j).drop i, false)] = z.2 ∧ iadd .i64 (j : Int) 1 = (z.1 : Int) ∧ Iv (rwoI y z.1 z.2 ∧ y.length + 1 - z.1 < y.length + 1 - i)))) := fun hq j h1 h2 h3 h4 => by
    obtain ⟨p1, p2⟩ := plain hq j h1 h2 h3 h4
    refine ⟨fun e => rwo_bad hI (by omega), fun e => ?_⟩
    obtain ⟨t1, t2, t3⟩ := rwo_tail hI p1 p2 hq (by omega)
    rw [show i + (j - i) = j by omega] at t2 t3
    refine ⟨by omega, by omega, by omega, by rw [List.length_take]; omega, by simp; omega, fun e => t2 (by omega), fun e => ⟨by omega, by omega, (t3 (by omega)).1, fun hc => ⟨(j + 1, _), rfl, iadd64 (by omega) (by omega), (t3 (by omega)).2 hc⟩⟩⟩
  have bd : ∀ j : Nat, j < y.length → isPl (y.getD j 0) = false → plainF (y.drop j) = 0 := fun j h hc => by
    rw [drop_cons 0 h]
    unfold plainF
    rw [hc]; rfl
  have gd : ∀ j : Nat, j < y.length → isPl (y.getD j 0) = true → plainF (y.drop j) = plainF (y.drop (j + 1)) + 1 := fun j h hc => by
    rw [drop_cons 0 h]
    show (bif isPl (y.getD j 0) then _ else _) = _
    rw [hc]; rfl
  refine pickQ (s := isQ (y.drop i) = false) (fun hq => ⟨(i, out), ⟨i, rfl, ⟨by omega, g1, by simp⟩⟩, fun j hj => ?_⟩) (fun h => ⟨by omega, h⟩) (fun hi hc => ?_) (fun hi hc => ?_) (fun hi => ?_)
  · obtain ⟨j1, j2, j3⟩ := hj.out
    have j1 : i ≤ j := j1
    have j3 : plainF (y.drop i) = (j - i) + plainF (y.drop j) := j3
    have fin := ends hq j j1 j2 j3
    refine ⟨fun h1 => ⟨by omega, h1, fun h2 => ⟨by omega, h1, fun h3 => ⟨by omega, h1, fun h4 => ?_, fun h4 => fin ?_⟩, fun h3 => fin ?_⟩, fun h2 => fin ?_⟩, fun h1 => fin ?_⟩
    · rw [sat_nat] at h2 h3 h4
      refine ⟨j + 1, iadd64 (by omega) (by omega), ⟨⟨by omega, by omega, ?_⟩, by omega⟩⟩
      have e : isPl (y.getD j 0) = true := by
        unfold isPl
        rw [decide_eq_true (show 33 ≤ (y.getD j 0).toNat by omega), decide_eq_true (show (y.getD j 0).toNat ≤ 126 by omega), decide_eq_true (show y.getD j 0 ≠ 34 from fun e => h4 (by rw [e]; rfl))]
        rfl
      have := gd j (by omega) e
      show plainF (y.drop i) = (j + 1 - i) + plainF (y.drop (j + 1))
      rw [j3, this]
      exact ar1 j1
    · rw [sat_nat] at h4
      exact bd j (by omega) (by unfold isPl; rw [show y.getD j 0 = 34 from byte_eq.1 h4]; rfl)
    · rw [sat_nat] at h3
      exact bd j (by omega) (by unfold isPl; rw [decide_eq_false (show ¬ (y.getD j 0).toNat ≤ 126 by omega)]; simp)
    · rw [sat_nat] at h2
      exact bd j (by omega) (by unfold isPl; rw [decide_eq_false (show ¬ 33 ≤ (y.getD j 0).toNat by omega)]; rfl)
    · rw [List.drop_eq_nil_of_le (by omega)]; rfl
  · rw [sat_nat] at hc
    have hq : isQ (y.drop i) = true := by rw [isQ_at (by omega)]; exact decide_eq_true (byte_eq.1 hc)
    have e : wordF (y.drop i) = quotF (y.drop i) := by unfold wordF; rw [hq]; rfl
    rw [rqN_w hq, Int.toNat_natCast, ← e]
    refine ⟨⟨by omega, hi, hy⟩, fun h => ?_, fun h => ?_⟩
    · split at h
      · rename_i h0; exact rwo_bad hI h0
      · omega
    · by_cases h0 : (wordF (y.drop i)).2 = 0
      · rw [if_pos h0] at h; omega
      · rw [if_neg h0] at h ⊢
        obtain ⟨t1, t2, t3⟩ := rwo_tail hI rfl rfl hq h0
        refine ⟨by simp; omega, fun e => t2 (by omega), fun e => ⟨by omega, by omega, (t3 (by omega)).1, fun hc => ⟨(i + (wordF (y.drop i)).2 + 1, _), rfl, iadd64 (by omega) (by omega), (t3 (by omega)).2 hc⟩⟩⟩
  · rw [sat_nat] at hc
    rw [isQ_at (by omega)]; exact decide_eq_false fun e => hc (by rw [e]; rfl)
  · rw [List.drop_eq_nil_of_le (by omega)]; rfl
theorem rwoOk : Ok rwoC := okW rwoV_eq rquOk rwoH
theorem head_sat {s : By} (h : s ≠ []) (c : UInt8) : ieq (sat s 0) (c.toNat : Int) = decide (s.head? = some c) := by
  cases s with
  | nil => exact absurd rfl h
  | cons a t =>
    rw [show sat (a :: t) 0 = (a.toNat : Int) from sat_nat _ 0, ieq_b]
    simp
theorem who_bad {y : By} (h : wholeE y = false) : 0 = wholeN y ∧ false = wholeE y := by
  unfold wholeN
  rw [h]
  exact ⟨rfl, rfl⟩
theorem tail2 {p q s a c t : Prop} (ht : t) (hs : p → s) (ha : p → a) (hc : q → c) : (p → s ∧ a ∧ t) ∧ (q → c ∧ t) := ⟨fun h => ⟨hs h, ha h, ht⟩, fun h => ⟨hc h, ht⟩⟩
theorem digs_below {y : By} (h : belowF y = true) : digsF y = y.drop 1 := by unfold digsF; rw [h]; rfl
theorem digs_not {y : By} (h : belowF y = false) : digsF y = y := by unfold digsF; rw [h]; rfl
theorem whoE_ok {y : By} (h : okDg y) : wholeE y = (allDig (digsF y) && !(decide (9223372036854775808 < valF 0 (digsF y)) || (decide (valF 0 (digsF y) = 9223372036854775808) && !belowF y))) := by
  obtain ⟨h1, h2, h3⟩ := h
  unfold wholeE
  rw [decide_eq_true h1, decide_eq_true h2]
  have : (decide ((digsF y).head? = some 48) && (belowF y || decide (1 < (digsF y).length))) = false := by
    by_cases h4 : (digsF y).head? = some 48
    · obtain ⟨h5, h6⟩ := h3 h4
      rw [h5, decide_eq_false (show ¬ 1 < (digsF y).length by omega)]; simp
    · rw [decide_eq_false h4]; rfl
  rw [this]; simp
theorem allDig_app {l : By} {c : UInt8} : allDig (l ++ [c]) = (allDig l && (decide (48 ≤ c.toNat) && decide (c.toNat ≤ 57))) := by
  unfold allDig
  simp
theorem allDig_take {l : By} {i : Nat} (h : allDig l = true) : allDig (l.take i) = true := allDig_iff.2 fun c hc => allDig_iff.1 h c (List.mem_of_mem_take hc)
theorem take_next {l : By} {i : Nat} (h : i < l.length) : l.take (i + 1) = l.take i ++ [l.getD i 0] := by
  rw [List.take_succ_eq_append_getElem h]
  simp [h]
theorem wrap64 (n : Int) : IntKind.i64.wrap n = (n + 9223372036854775808) % 18446744073709551616 - 9223372036854775808 := by
  simp only [IntKind.wrap, IntKind.bits, IntKind.signed]
  simp
  split <;> omega
theorem wrapu64 (n : Int) : IntKind.u64.wrap n = n % 18446744073709551616 := by simp [IntKind.wrap, IntKind.bits, IntKind.signed]
theorem whoH (y : By) (hy : whoC.pre y) : whoVC y := by
  have hy : y.length ≤ 2000 := hy
  unfold whoVC
  simp only [Rfs_eq, Tt_eq, Bth_eq, and_true, ile_t, ile_f, ilt_t, ilt_f, ieq_t, ieq_f, seq_t, seq_f, Bool.not_eq_true', Bool.not_eq_false', slen_eq, llen_eq]
  refine tail2 (fun _ _ => ⟨?_, fun _ hok => ⟨⟨0, rfl, rfl, ⟨by omega, rfl⟩⟩, fun x hx => ?_⟩⟩) (fun h => by omega) (fun h => ⟨fun h2 => ⟨by omega, (), ?_, ?_, ⟨trivial⟩⟩, fun h2 => ⟨(), ?_, ?_, ⟨trivial⟩⟩⟩) (fun h => ⟨(), ?_, ?_, ⟨trivial⟩⟩)
  · refine ⟨fun h => who_bad ?_, fun h => ⟨fun h1 => who_bad ?_, fun h1 => ?_⟩⟩
    · unfold wholeE; rw [decide_eq_false (not_not_intro h)]; rfl
    · unfold wholeE; rw [decide_eq_false (show ¬ (digsF y).length ≤ 19 by omega)]; simp
    · have hp := List.length_pos_iff.2 h
      have hs : ieq (sat (digsF y) 0) 48 = decide ((digsF y).head? = some 48) := head_sat h 48
      refine ⟨by omega, fun h2 => ⟨fun h3 => who_bad ?_, fun h3 => ⟨fun h4 => who_bad ?_, fun h4 => ⟨(), ⟨h, by omega, fun _ => ⟨h3, by omega⟩⟩⟩⟩⟩, fun h2 => ⟨(), ⟨h, by omega, fun h4 => absurd ?_ h2⟩⟩⟩
      · have h5 : decide ((digsF y).head? = some 48) = true := by rw [← hs]; exact ieq_t.2 h2
        unfold wholeE; rw [h5, h3]; simp
      · have h5 : decide ((digsF y).head? = some 48) = true := by rw [← hs]; exact ieq_t.2 h2
        unfold wholeE; rw [h5, decide_eq_true (show 1 < (digsF y).length by omega)]; simp
      · have h5 : decide ((digsF y).head? = some 48) = true := decide_eq_true h4
        rw [← hs] at h5; exact ieq_t.1 h5
  · obtain ⟨x1, x2⟩ := hx.out
    have hok := hok.out
    have hE := whoE_ok hok
    obtain ⟨o1, o2, o3⟩ := hok
    have hd19 : valF 0 ((digsF y).take x) < 10 ^ (0 + ((digsF y).take x).length) := valF_lt _ 0 0 (allDig_iff.1 x2) (by omega)
    rw [List.length_take, Nat.min_eq_left x1] at hd19
    refine ⟨fun h => ⟨by omega, h, ?_⟩, fun h => ?_⟩
    · have hx1 : x < (digsF y).length := by omega
      have ht := take_next hx1
      have hb := (digsF y).getD x 0 |>.toNat_lt
      have nd : allDig ((digsF y).take (x + 1)) = false → wholeE y = false := fun hf => by
        rw [hE]
        cases ha : allDig (digsF y) with
        | false => rfl
        | true => rw [allDig_take ha] at hf; cases hf
      rw [sat_nat]
      generalize hc : (digsF y).getD x 0 = c at *
      refine ⟨fun h1 => who_bad (nd ?_), fun h1 => ⟨by omega, h, fun h2 => who_bad (nd ?_), fun h2 => ⟨by omega, h, x + 1, ?_, iadd64 (by omega) (by omega), ⟨⟨by omega, ?_⟩, by omega⟩⟩⟩⟩
      · rw [ht, allDig_app, decide_eq_false (show ¬ 48 ≤ c.toNat by omega)]; simp
      · rw [ht, allDig_app, decide_eq_false (show ¬ c.toNat ≤ 57 by omega)]; simp
      · have hp : (10 : Nat) ^ (0 + x) ≤ 10 ^ 18 := Nat.pow_le_pow_right (by omega) (by omega)
        have hv : valF 0 ((digsF y).take x) < 1000000000000000000 := by omega
        rw [ht, valF_app, isub8 (by omega) (by omega), icvU (by omega) (by omega), imulU (by omega) (by omega), iaddU (by omega) (by omega)]
        omega
      · rw [ht, allDig_app, x2, decide_eq_true (show 48 ≤ c.toNat by omega), decide_eq_true (show c.toNat ≤ 57 by omega)]; rfl
    · have ht : (digsF y).take x = digsF y := List.take_of_length_le (by omega)
      rw [ht] at x2 hd19 ⊢
      rw [x2] at hE
      have hp : (10 : Nat) ^ (0 + x) ≤ 10 ^ 19 := Nat.pow_le_pow_right (by omega) (by omega)
      have hv : valF 0 (digsF y) < 10000000000000000000 := by omega
      generalize hw : valF 0 (digsF y) = v at *
      have good : wholeE y = true → v ≤ 9223372036854775808 → (belowF y = true → icv .i64 (ineg .u64 (v : Int)) = wholeN y ∧ true = wholeE y) ∧ (belowF y = false → v < 9223372036854775808 → icv .i64 (v : Int) = wholeN y ∧ true = wholeE y) := fun he hm => by
        unfold wholeN
        rw [he, hw]
        refine ⟨fun hb => ?_, fun hb hlt => ?_⟩
        · rw [hb]
          refine ⟨?_, rfl⟩
          show IntKind.i64.wrap (IntKind.u64.wrap (-(v : Int))) = -(v : Int)
          rw [wrap64, wrapu64]; omega
        · rw [hb]
          refine ⟨?_, rfl⟩
          exact icvI (by omega) (by omega)
      refine ⟨fun h1 => who_bad ?_, fun h1 => ⟨fun h2 => ⟨fun h3 => who_bad ?_, fun h3 => ?_⟩, fun h2 => ?_⟩⟩
      · rw [hE, decide_eq_true (show 9223372036854775808 < v by omega)]; rfl
      · rw [hE, decide_eq_true (show v = 9223372036854775808 by omega), h3]; simp
      · have he : wholeE y = true := by rw [hE, decide_eq_false (show ¬ 9223372036854775808 < v by omega), h3]; simp
        exact ⟨(good he (by omega)).1, fun hb => by rw [h3] at hb; cases hb⟩
      · have he : wholeE y = true := by rw [hE, decide_eq_false (show ¬ 9223372036854775808 < v by omega), decide_eq_false (show ¬ v = 9223372036854775808 by omega)]; rfl
        exact ⟨(good he (by omega)).1, fun hb => (good he (by omega)).2 hb (by omega)⟩
  all_goals (have hne : 1 < y.length → y ≠ [] := fun h e => by rw [e] at h; simp at h)
  · have hs : ieq (sat y 0) 45 = decide (y.head? = some 45) := head_sat (hne (by omega)) 45
    rw [hs]; unfold belowF; rw [decide_eq_true (show 1 < y.length by omega)]; rfl
  · have hs : ieq (sat y 0) 45 = decide (y.head? = some 45) := head_sat (hne (by omega)) 45
    have hb : belowF y = true := by unfold belowF; rw [decide_eq_true (show 1 < y.length by omega), ← hs]; exact ieq_t.2 h2
    rw [digs_below hb]; rfl
  · have hs : ieq (sat y 0) 45 = decide (y.head? = some 45) := head_sat (hne (by omega)) 45
    rw [hs]; unfold belowF; rw [decide_eq_true (show 1 < y.length by omega)]; rfl
  · have hs : ieq (sat y 0) 45 = decide (y.head? = some 45) := head_sat (hne (by omega)) 45
    have hb : belowF y = false := by unfold belowF; rw [decide_eq_true (show 1 < y.length by omega), ← hs]; exact ieq_f.2 h2
    exact (digs_not hb).symm
  · unfold belowF; rw [decide_eq_false (show ¬ 1 < y.length by omega)]; rfl
  · have hb : belowF y = false := by unfold belowF; rw [decide_eq_false (show ¬ 1 < y.length by omega)]; rfl
    exact (digs_not hb).symm
theorem whoOk : Ok whoC := okW whoV_eq trivial whoH
theorem rnuH (y : Wd) (hy : rnuC.pre y) : rnuVC y := by
  have hy : y.1.length ≤ 2000 := hy
  unfold rnuVC
  simp only [Rfs_eq, Bth_eq, and_true, ile_t, ile_f, Bool.not_eq_true', Bool.not_eq_false']
  have hn : numW y = (numOk y.1 && !y.2) := rfl
  have hr := num_ref y.1
  refine ⟨⟨hy⟩, fun h1 => ⟨fun h2 => ⟨fun h3 => ?_, fun h3 => ?_⟩, fun h2 => ?_⟩, fun h1 => ?_⟩
  · rw [hn, hr, h1, h2, decide_eq_true h3]; simp [ile]
  · rw [hn, hr, decide_eq_false (show ¬ 0 ≤ wholeN y.1 by omega)]; simp
  · rw [hn, hr, h2]; simp
  · rw [hn, h1]; simp
theorem rnuOk : Ok rnuC := okW rnuV_eq whoOk rnuH
end Go.Proofs.YtjdehneddakpnaaGreatDoor.sx
namespace Go.Proofs.YtjdehneddakpnaaGreatDoor.sx
open Go Go.RowKit
set_option maxRecDepth 100000
theorem rruH (y : List Wd) (hy : rruC.pre y) : rruVC y := by
  have y2 : y.length ≤ 10000 := hy
  unfold rruVC
  simp only [Rfs_eq, Tt_eq, Bth_eq, and_true, llen_eq]
  refine ⟨⟨(0, []), rfl, rfl, ⟨by simp⟩⟩, fun x hx => ?_⟩
  obtain ⟨i, acc⟩ := x
  obtain ⟨h1, h3, h4⟩ := hx.out
  simp only at h1 h3 h4 ⊢
  have e1 : iadd .i64 (i : Int) 1 = ((i + 1 : Nat) : Int) := iadd64 (by omega) (by omega)
  have e2 : iadd .i64 (i : Int) 2 = ((i + 2 : Nat) : Int) := iadd64 (by omega) (by omega)
  simp only [e1, e2, gt_nat, ile_t, ile_f, ilt_t, ilt_f, ieq_t, ieq_f, lcat_eq, fits_t, seq_t, seq_f, Bool.not_eq_true', Bool.not_eq_false']
  refine ⟨fun h5 => ⟨fun h6 => ?_, fun h6 => ?_⟩, fun h5 => ?_⟩
  · have hd : y.drop i = [y.getD i ([], false)] := by
      rw [drop_cons ([], false) (show i < y.length by omega), List.drop_eq_nil_of_le (by omega)]
    rw [h4, hd]; exact ⟨rfl, rfl, rfl⟩
  · have hi : i + 2 ≤ y.length := by omega
    obtain ⟨_, p2⟩ := pair_at hi
    generalize hga : y.getD i ([], false) = a at *
    generalize hgb : y.getD (i + 1) ([], false) = b at *
    rw [p2] at h4
    rw [h4]
    have step : a.2 = false → b.2 = true → (¬ (y.drop (i + 2) = [] ∧ a.1 = contB)) → rsetGo acc (a :: b :: y.drop (i + 2)) = rsetGo (acc ++ [(a.1, b.1)]) (y.drop (i + 2)) := fun ha hb hn => by
      rw [rsetGo, ha, hb]
      simp only [Bool.not_false, Bool.and_true, cond_true]
      rw [if_neg hn]
    refine ⟨by omega, h5, fun h7 => ?_, fun h7 => ⟨by omega, by omega, fun h8 => ?_, fun h8 => ⟨by omega, h5, fun h9 => ⟨fun h10 => ⟨by omega, by omega, ?_⟩, fun h10 => ⟨by omega, h5, by omega, by omega, by simp; omega, (i + 2, acc ++ [(a.1, b.1)]), rfl, rfl, ⟨⟨by omega, by simp; omega, ?_⟩, by omega⟩⟩⟩,
      fun h9 => ⟨by omega, h5, by omega, by omega, by simp; omega, (i + 2, acc ++ [(a.1, b.1)]), rfl, rfl, ⟨⟨by omega, by simp; omega, ?_⟩, by omega⟩⟩⟩⟩⟩
    · rw [rsetGo, h7]; exact ⟨rfl, rfl, rfl⟩
    · rw [rsetGo, h7, h8]; exact ⟨rfl, rfl, rfl⟩
    · rw [rsetGo, h7, h8]
      simp only [Bool.not_false, Bool.and_true, cond_true]
      rw [if_pos ⟨List.drop_eq_nil_of_le (by omega), h9⟩]
      refine ⟨rfl, rfl, ?_⟩
      by_cases hb : b.1 = [] <;> simp [hb, seq]
    · exact step h7 h8 fun hq => h10 (by have := List.drop_eq_nil_iff.1 hq.1; omega)
    · exact step h7 h8 fun hq => h9 hq.2
  · rw [h4, List.drop_eq_nil_of_le (by omega)]; exact ⟨rfl, rfl, rfl⟩
theorem rruOk : Ok rruC := okW rruV_eq trivial rruH
/-- the end of the document's step: all words were looked at -/
theorem plainA_cons (a : Wd) (r : List Wd) (h : a.2 = false) : plainA (a :: r) = plainA r := by
  show ((!a.2) && plainA r) = plainA r
  rw [h]; rfl
theorem rstH (y : List Wd) (hy : rstC.pre y) : rstVC y := by
  obtain ⟨y1, y2, y3, y4⟩ : shortW y ∧ y.length ≤ 10000 ∧ 1 ≤ y.length ∧ (wd y 0).2 = false := hy
  unfold rstVC
  simp only [Rfs_eq, Tt_eq, Bth_eq, and_true, llen_eq, gt_nat]
  refine ⟨⟨0, rfl, rfl, ⟨by omega⟩⟩, fun x hx => ⟨fun h => ⟨fun h1 => ⟨by simp [ile], h, x + 1, ?_, ?_, ⟨?_⟩⟩, fun h1 => ⟨x + 1, ?_, ?_, ⟨?_⟩⟩⟩, fun h => ?_⟩⟩
  all_goals (try (have hlt : x < y.length := by have := ilt_t.1 h; omega))
  · rw [List.take_succ_eq_append_getElem hlt]
    unfold plainA at *
    rw [List.all_append, h1]
    simp [hlt]
  · exact iadd64 (by omega) (by omega)
  · omega
  · rw [List.take_succ_eq_append_getElem hlt]
    unfold plainA at *
    rw [List.all_append, h1]; rfl
  · exact iadd64 (by omega) (by omega)
  · omega
  have hx := hx.out
  have h := ilt_f.1 h
  rw [List.take_of_length_le (show y.length ≤ x by omega)]
  clear h hx
  cases y with
  | nil => simp at y3
  | cons a r =>
    have hw : w0 (a :: r) = a.1 := rfl
    have ha : a.2 = false := y4
    have hp := plainA_cons a r ha
    have yr : shortW r := fun w hw => y1 w (List.mem_cons_of_mem _ hw)
    have yl : r.length ≤ 10000 := by simp at y2; omega
    have hr : ldrop (a :: r) (1 : Int) = r := rfl
    have h0 : gt (([] : By), false) (a :: r) 0 = a := rfl
    rw [hp]
    simp only [hr, h0]
    refine ⟨ilt_t.2 (by simp only [List.length_cons]; omega), ?_⟩
    by_cases k1 : a.1 = kCreate
    · have e := stepF_create (hw.trans k1)
      rw [List.drop_one, List.tail_cons] at e
      have er : rstV0 (a :: r) = (stepF (a :: r)).getD sv0 := by unfold rstV0; rw [hw, k1]; rfl
      rw [er, e]
      rcases r with _ | ⟨v, _ | ⟨w, _ | ⟨u, t⟩⟩⟩
      all_goals (try (obtain ⟨vs, vq⟩ := v; cases vq))
      all_goals (try (obtain ⟨ws, wq⟩ := w; cases wq))
      all_goals (try simp (decide := true) [k1, seq, kCreate, sv0, areF, isK, wd, gt, ha, plainA, ieq, ilt, ile])
      all_goals (try omega)
    by_cases k2 : a.1 = kRemove
    · have e := stepF_remove (hw.trans k2)
      rw [List.drop_one, List.tail_cons] at e
      have er : rstV0 (a :: r) = (stepF (a :: r)).getD sv0 := by unfold rstV0; rw [hw, k2]; rfl
      rw [er, e]
      rcases r with _ | ⟨v, _ | ⟨w, _ | ⟨u, t⟩⟩⟩
      all_goals (try (obtain ⟨vs, vq⟩ := v; cases vq))
      all_goals (try (obtain ⟨ws, wq⟩ := w; cases wq))
      all_goals (try simp (decide := true) [k2, seq, kRemove, sv0, areF, isK, wd, gt, ha, plainA, ieq, ilt, ile])
      all_goals (try omega)
    by_cases k3 : a.1 = kAppend
    · have e := stepF_append (hw.trans k3)
      rw [List.drop_one, List.tail_cons] at e
      have er : rstV0 (a :: r) = (stepF (a :: r)).getD sv0 := by unfold rstV0; rw [hw, k3]; rfl
      rw [er, e]
      rcases r with _ | ⟨v, _ | ⟨w, _ | ⟨u, t⟩⟩⟩
      all_goals (try (obtain ⟨vs, vq⟩ := v; cases vq))
      all_goals (try (obtain ⟨ws, wq⟩ := w; cases wq))
      all_goals (try simp (decide := true) [k3, seq, kAppend, sv0, areF, isK, wd, gt, ha, plainA, ieq, ilt, ile])
      all_goals (try omega)
    by_cases k4 : a.1 = kRename
    · have e := stepF_rename (hw.trans k4)
      rw [List.drop_one, List.tail_cons] at e
      have er : rstV0 (a :: r) = (stepF (a :: r)).getD sv0 := by unfold rstV0; rw [hw, k4]; rfl
      rw [er, e]
      rcases r with _ | ⟨v, _ | ⟨w, _ | ⟨u, t⟩⟩⟩
      all_goals (try (obtain ⟨vs, vq⟩ := v; cases vq))
      all_goals (try (obtain ⟨ws, wq⟩ := w; cases wq))
      all_goals (try simp (decide := true) [k4, seq, kRename, sv0, areF, isK, wd, gt, ha, plainA, ieq, ilt, ile])
      all_goals (try omega)
    by_cases k5 : a.1 = kCut
    · have e := stepF_cut (hw.trans k5)
      rw [List.drop_one, List.tail_cons] at e
      have er : rstV0 (a :: r) = if (a :: r).length = 3 ∧ plainA (a :: r) = true then { sv0 with kind := 4, name := (wd (a :: r) 1).1, n := wholeN (wd (a :: r) 2).1 } else sv0 := by unfold rstV0; rw [hw, k5]; rfl
      rw [er, e]
      rcases r with _ | ⟨v, _ | ⟨w, _ | ⟨u, t⟩⟩⟩
      all_goals (try (obtain ⟨vs, vq⟩ := v; cases vq))
      all_goals (try (obtain ⟨ws, wq⟩ := w; cases wq))
      all_goals (try simp (decide := true) [k5, seq, kCut, sv0, areF, isK, wd, gt, ha, plainA, ieq, ilt, ile])
      all_goals (try omega)
      · exact ⟨⟨yr (ws, false) (by simp)⟩, by cases numW (ws, false) <;> rfl⟩
    by_cases k6 : a.1 = kPoll
    · have e := stepF_poll (hw.trans k6)
      rw [List.drop_one, List.tail_cons] at e
      have er : rstV0 (a :: r) = { sv0 with kind := 6 } := by unfold rstV0; rw [hw, k6]; rfl
      rw [er, e]
      rcases r with _ | ⟨v, _ | ⟨w, _ | ⟨u, t⟩⟩⟩
      all_goals (try (obtain ⟨vs, vq⟩ := v; cases vq))
      all_goals (try (obtain ⟨ws, wq⟩ := w; cases wq))
      all_goals (try simp (decide := true) [k6, seq, kPoll, sv0, areF, isK, wd, gt, ha, plainA, ieq, ilt, ile])
      all_goals (try omega)
    by_cases k7 : a.1 = kOpen
    · have e := stepF_open (hw.trans k7)
      rw [List.drop_one, List.tail_cons] at e
      have er : rstV0 (a :: r) = { sv0 with kind := 10 } := by unfold rstV0; rw [hw, k7]; rfl
      rw [er, e]
      rcases r with _ | ⟨v, _ | ⟨w, _ | ⟨u, t⟩⟩⟩
      all_goals (try (obtain ⟨vs, vq⟩ := v; cases vq))
      all_goals (try (obtain ⟨ws, wq⟩ := w; cases wq))
      all_goals (try simp (decide := true) [k7, seq, kOpen, sv0, areF, isK, wd, gt, ha, plainA, ieq, ilt, ile])
      all_goals (try omega)
    by_cases k8 : a.1 = kQuery
    · have e := stepF_query (hw.trans k8)
      rw [List.drop_one, List.tail_cons] at e
      have er : rstV0 (a :: r) = if (a :: r).length = 2 then { sv0 with kind := 8, n := wholeN (wd (a :: r) 1).1 } else sv0 := by unfold rstV0; rw [hw, k8]; rfl
      rw [er, e]
      rcases r with _ | ⟨v, _ | ⟨w, _ | ⟨u, t⟩⟩⟩
      all_goals (try (obtain ⟨vs, vq⟩ := v; cases vq))
      all_goals (try (obtain ⟨ws, wq⟩ := w; cases wq))
      all_goals (try simp (decide := true) [k8, seq, kQuery, sv0, areF, isK, wd, gt, ha, plainA, ieq, ilt, ile])
      all_goals (try omega)
      · exact ⟨⟨yr (vs, false) (by simp)⟩, by cases numW (vs, false) <;> rfl⟩
      · exact ⟨⟨yr (vs, true) (by simp)⟩, by simp [numW]⟩
    by_cases k9 : a.1 = kCrash
    · have e := stepF_crash (hw.trans k9)
      rw [List.drop_one, List.tail_cons] at e
      have er : rstV0 (a :: r) = if (a :: r).length = 2 then { sv0 with kind := 9, n := wholeN (wd (a :: r) 1).1 } else sv0 := by unfold rstV0; rw [hw, k9]; rfl
      rw [er, e]
      rcases r with _ | ⟨v, _ | ⟨w, _ | ⟨u, t⟩⟩⟩
      all_goals (try (obtain ⟨vs, vq⟩ := v; cases vq))
      all_goals (try (obtain ⟨ws, wq⟩ := w; cases wq))
      all_goals (try simp (decide := true) [k9, seq, kCrash, sv0, areF, isK, wd, gt, ha, plainA, ieq, ilt, ile])
      all_goals (try omega)
      · exact ⟨⟨yr (vs, false) (by simp)⟩, by cases numW (vs, false) <;> rfl⟩
      · exact ⟨⟨yr (vs, true) (by simp)⟩, by simp [numW]⟩
    by_cases k10 : a.1 = kLoad
    · have e := stepF_load (hw.trans k10)
      rw [List.drop_one, List.tail_cons] at e
      have er : rstV0 (a :: r) = { sv0 with kind := 7, rules := (rsetGo [] r).1, cont := (rsetGo [] r).2.1 } := by unfold rstV0; rw [hw, k10]; rfl
      have e4 : (stepF (a :: r)).isSome = (rsetGo [] r).2.2 := by
        rw [e, (rset_set r).1]
        cases (setF r).2.2 <;> rfl
      rw [er, e4]
      simp (decide := true) [k10, seq, kLoad, sv0, ilt, ile, yl]
      exact ⟨by omega, ⟨trivial⟩⟩
    · have e := stepF_else (l := a :: r) k1 k2 k3 k4 k5 k6 k7 k8 k9 k10
      have er : rstV0 (a :: r) = sv0 := by
        unfold rstV0
        rw [hw, if_neg k6, if_neg k7, if_neg k5, if_neg k8, if_neg k9, if_neg k10, e]; rfl
      rw [er, e]
      unfold kCreate kRemove kAppend kRename kCut kPoll kOpen kQuery kCrash kLoad at *
      simp (decide := true) [seq, k1, k2, k3, k4, k5, k6, k7, k8, k9, k10, sv0]
theorem rstOk : Ok rstC := okW rstV_eq ⟨rnuOk, rruOk⟩ rstH
theorem are_n {r : List Wd} (h : areF r [110] = true) : ∃ w, r = [w] ∧ numW w = true := by
  have hl := areF_len r [110]
  match r, h with
  | [w], h =>
    have h : (isK 110 w && true) = true := h
    refine ⟨w, rfl, ?_⟩
    simp [isK] at h
    exact h.2
  | [], h => cases h
  | a :: b :: t, h => rw [hl (by simp)] at h; cases h
theorem are_pn {r : List Wd} (h : areF r [112, 110] = true) : ∃ v w, r = [v, w] ∧ v.2 = false ∧ numW w = true := by
  cases r with
  | nil => cases h
  | cons v t =>
    have h : (isK 112 v && areF t [110]) = true := h
    rw [Bool.and_eq_true] at h
    obtain ⟨w, rfl, hw⟩ := are_n h.2
    have h1 := h.1
    refine ⟨v, w, rfl, ?_, hw⟩
    simp [isK] at h1
    exact h1
theorem rst_some {l : List Wd} {v : Sv} (h0 : (wd l 0).2 = false) (hl : 1 ≤ l.length) (h : stepF l = some v) : rstV0 l = v := by
  have nw : ∀ w : Wd, numW w = true → wholeN w.1 = valF 0 w.1 := fun w hw => by
    unfold numW at hw
    rw [Bool.and_eq_true] at hw
    exact (num_whole hw.1).2
  have np : ∀ w : Wd, numW w = true → w.2 = false := fun w hw => by
    unfold numW at hw
    rw [Bool.and_eq_true] at hw
    simpa using hw.2
  cases l with
  | nil => simp at hl
  | cons a r =>
    have ha : a.2 = false := h0
    unfold rstV0
    by_cases h1 : w0 (a :: r) = kPoll
    · rw [if_pos h1]
      rw [stepF_poll h1] at h
      split at h <;> cases h; rfl
    rw [if_neg h1]
    by_cases h2 : w0 (a :: r) = kOpen
    · rw [if_pos h2]
      rw [stepF_open h2] at h
      split at h <;> cases h; rfl
    rw [if_neg h2]
    by_cases h3 : w0 (a :: r) = kCut
    · rw [if_pos h3]
      rw [stepF_cut h3] at h
      split at h <;> cases h
      rename_i hA
      obtain ⟨v, w, rfl, hv, hw⟩ := are_pn hA
      rw [if_pos ⟨rfl, by simp [plainA, ha, hv, np w hw]⟩, show (wd [a, v, w] 2).1 = w.1 from rfl, nw w hw]
    rw [if_neg h3]
    by_cases h4 : w0 (a :: r) = kQuery
    · rw [if_pos h4]
      rw [stepF_query h4] at h
      split at h <;> cases h
      rename_i hA
      obtain ⟨w, rfl, hw⟩ := are_n hA
      rw [if_pos (show [a, w].length = 2 from rfl), show (wd [a, w] 1).1 = w.1 from rfl, nw w hw]
    rw [if_neg h4]
    by_cases h5 : w0 (a :: r) = kCrash
    · rw [if_pos h5]
      rw [stepF_crash h5] at h
      split at h <;> cases h
      rename_i hA
      obtain ⟨w, rfl, hw⟩ := are_n hA
      rw [if_pos (show [a, w].length = 2 from rfl), show (wd [a, w] 1).1 = w.1 from rfl, nw w hw]
    rw [if_neg h5]
    by_cases h6 : w0 (a :: r) = kLoad
    · rw [if_pos h6]
      rw [stepF_load h6] at h
      split at h <;> cases h
      rename_i hA
      rw [(rset_set _).2 hA]
    rw [if_neg h6, h]; rfl
theorem rpaH (y : By) (_hy : rpaC.pre y) : rpaVC y := by
  unfold rpaVC
  simp only [Rfs_eq, Tt_eq, Bth_eq, and_true, ilt_t, ilt_f, slen_eq, llen_eq, Bool.not_eq_true', Bool.not_eq_false']
  have hwd : gt (([] : By), false) (wordsF y) 0 = wd (wordsF y) 0 := rfl
  rw [hwd]
  rcases parse_cases y with ⟨h1, h2, h3⟩ | ⟨h1, h2, h3, h4⟩ | ⟨h1, h2, h3, h4, h5, h6⟩
  · rw [h2, h3]
    exact ⟨fun _ => ⟨rfl, rfl, rfl, rfl, rfl, rfl, rfl, rfl⟩, fun h => by omega⟩
  · rw [h3, h4]
    refine ⟨fun h => by omega, fun _ => ⟨⟨h1⟩, fun _ => ⟨rfl, rfl, rfl, rfl, rfl, rfl, rfl, rfl⟩, fun hw => ?_⟩⟩
    obtain ⟨_, k2, k3, k4⟩ := words_short h1 hw
    refine ⟨by omega, fun _ => ⟨rfl, rfl, rfl, rfl, rfl, rfl, rfl, rfl⟩, fun hq => ⟨⟨k2, k3, k4, hq⟩, fun _ => ⟨rfl, rfl, rfl, rfl, rfl, rfl, rfl, rfl⟩, fun hs => ?_⟩⟩
    rcases h2 with h2 | h2
    · rw [hw] at h2; cases h2
    · unfold stepE at h2
      rw [hq, hs] at h2; cases h2
  · rw [h5, h6]
    obtain ⟨g1, g2⟩ := stepE_some h3
    refine ⟨fun h => by omega, fun _ => ⟨⟨h1⟩, fun hw => absurd (hw.symm.trans h2) (by simp), fun hw => ?_⟩⟩
    obtain ⟨_, k2, k3, k4⟩ := words_short h1 hw
    refine ⟨by omega, fun hq => absurd (hq.symm.trans g1) (by simp), fun hq => ⟨⟨k2, k3, k4, hq⟩, fun hs => absurd hs (by rw [g2]; simp), fun _ => ?_⟩⟩
    rw [rst_some g1 k4 g2]
    exact ⟨rfl, rfl, rfl, rfl, rfl, rfl, rfl, rfl⟩
theorem rpaOk : Ok rpaC := okW rpaV_eq ⟨rwoOk, rstOk⟩ rpaH
end Go.Proofs.YtjdehneddakpnaaGreatDoor.sx
namespace Go.Proofs.YtjdehneddakpnaaGreatDoor.sx
open Go Go.RowKit
set_option maxRecDepth 100000
theorem kMx_mod (k : IntKind) : kMx k < (kMod k : Int) := by cases k <;> decide
theorem toN_nat {k : IntKind} {m : Nat} (h : (m : Int) ≤ kMx k) : toN k (m : Int) = m := by
  have := kMx_mod k
  show Nat.mod m (kMod k) = m
  exact Nat.mod_eq_of_lt (by omega)
theorem iand15 (c : UInt8) : iand .u8 (c.toNat : Int) 15 = ((c.toNat % 16 : Nat) : Int) := by
  have hb := c.toNat_lt
  unfold iand
  rw [toN_nat (k := .u8) (by show ((c.toNat : Nat) : Int) ≤ 255; omega), show toN .u8 (15 : Int) = 15 from rfl]
  have e : Nat.land c.toNat 15 = c.toNat % 16 := Nat.and_two_pow_sub_one_eq_mod c.toNat 4
  rw [e]
  exact inR_wrap (inR_iff.2 ⟨by show (0 : Int) ≤ ((c.toNat % 16 : Nat) : Int); omega, by show ((c.toNat % 16 : Nat) : Int) ≤ 255; omega⟩)
theorem ishr4 (c : UInt8) : ishr .u8 (c.toNat : Int) 4 = ((c.toNat / 16 : Nat) : Int) := by
  show (c.toNat : Int) / 2 ^ (min 4 8) = _
  simp
theorem digs_all : (List.range 16).all (fun n => decide (digs.getD n 0 = hexD n)) = true := by decide +kernel
theorem digs_at {n : Nat} (h : n < 16) : digs.getD n 0 = hexD n := of_decide_eq_true (List.all_eq_true.1 digs_all n (List.mem_range.2 h))
theorem escF_len (c : UInt8) : (escF c).length ≤ 4 := by
  unfold escF
  repeat' split
  all_goals simp
theorem escs_app (a : By) (c : UInt8) : escs (a ++ [c]) = escs a ++ escF c := by unfold escs; simp
theorem escs_len (s : By) : (escs s).length ≤ 4 * s.length := by
  induction s with
  | nil => exact Nat.le_refl 0
  | cons c t ih =>
    have e : escs (c :: t) = escF c ++ escs t := rfl
    have := escF_len c
    rw [e, List.length_append, List.length_cons]; omega
theorem shownF_len (s : By) : (shownF s).length ≤ 4 * s.length + 2 := by
  have := escs_len s
  unfold shownF
  simp; omega
theorem escs_take {y : By} {x : Nat} (h : x < y.length) : escs (y.take (x + 1)) = escs (y.take x) ++ escF (y.getD x 0) := by rw [take_next h, escs_app]
theorem esc_plain {c : UInt8} (h1 : c ≠ 34) (h2 : c ≠ 92) (h3 : c ≠ 10) (h4 : c ≠ 9) (h5 : c ≠ 13) : escF c = if 32 ≤ c.toNat ∧ c.toNat ≤ 126 then [c] else [92, 120, hexD (c.toNat / 16), hexD (c.toNat % 16)] := by
  unfold escF
  rw [if_neg (by simp [h1, h2]), if_neg h3, if_neg h4, if_neg h5]
theorem shoH (y : By) (hy : shoC.pre y) : shoVC y := by
  have hy : y.length ≤ 1000000 := hy
  unfold shoVC
  rw [show ((48 : UInt8) :: 49 :: 50 :: 51 :: 52 :: 53 :: 54 :: 55 :: 56 :: 57 :: 97 :: 98 :: 99 :: 100 :: 101 :: 102 :: []) = digs from rfl]
  simp only [Rfs_eq, Tt_eq, Bth_eq, and_true, ile_t, ile_f, ilt_t, ilt_f, ieq_t, ieq_f, slen_eq, llen_eq, lcat_eq, fits_t, sat_nat, b8_nat]
  refine ⟨⟨0, rfl, rfl, ⟨by omega⟩⟩, fun x hx => ?_⟩
  have hx := hx.out
  have b34 : b8 34 = 34 := rfl
  have b92 : b8 92 = 92 := rfl
  have b120 : b8 120 = 120 := rfl
  refine ⟨fun h => ?_, fun h => ?_⟩
  · have hlt : x < y.length := by omega
    have ht := escs_take hlt
    have hl := escs_len (y.take x)
    rw [List.length_take] at hl
    generalize y.getD x 0 = c at *
    have nx : ∀ t : By, escF c = t → (((34 :: escs (y.take x) ++ t : By).length : Nat) : Int) * ((1 : Nat) : Int) ≤ 140737488355328 ∧ ∃ z : Nat, (34 :: escs (y.take x) ++ t : By) = 34 :: escs (y.take z) ∧ iadd .i64 (x : Int) 1 = (z : Int) ∧ Iv (z ≤ y.length ∧ y.length - z < y.length - x) := fun t e => by
      have := escF_len c
      rw [e] at this
      refine ⟨by simp; omega, x + 1, ?_, iadd64 (by omega) (by omega), ⟨by omega, by omega⟩⟩
      rw [ht, e]; rfl
    have hexs : c ≠ 34 → c ≠ 92 → c ≠ 10 → c ≠ 9 → c ≠ 13 → ¬ (32 ≤ c.toNat ∧ c.toNat ≤ 126) → escF c = [92, 120, hexD (c.toNat / 16), hexD (c.toNat % 16)] := fun h1 h2 h3 h4 h5 h6 => by rw [esc_plain h1 h2 h3 h4 h5, if_neg h6]
    have hb := c.toNat_lt
    have e1 := digs_at (show c.toNat / 16 < 16 by omega)
    have e2 := digs_at (show c.toNat % 16 < 16 by omega)
    have hd : digs.length = 16 := rfl
    simp only [ishr4, iand15, sat_nat, b8_nat, e1, e2, b34, b92, b120, hd]
    refine ⟨by omega, h, fun k1 => nx _ ?_, fun k1 => ⟨fun k2 => nx _ ?_, fun k2 => ⟨fun k3 => nx _ ?_, fun k3 => ⟨fun k4 => nx _ ?_, fun k4 => ⟨fun k5 => nx _ ?_, fun k5 => ⟨fun k6 => ⟨fun k7 => nx _ ?_, fun k7 => ⟨by omega, by omega, by omega, by omega, by omega, nx _ ?_⟩⟩, fun k6 => ⟨by omega, by omega, by omega, by omega, by omega, nx _ ?_⟩⟩⟩⟩⟩⟩⟩
    · obtain rfl : c = 34 := byte_eq.1 k1
      rfl
    · obtain rfl : c = 92 := byte_eq.1 k2
      rfl
    · obtain rfl : c = 10 := byte_eq.1 k3
      rfl
    · obtain rfl : c = 9 := byte_eq.1 k4
      rfl
    · obtain rfl : c = 13 := byte_eq.1 k5
      rfl
    all_goals (have n1 : c ≠ 34 := fun e => k1 (by rw [e]; rfl))
    all_goals (have n2 : c ≠ 92 := fun e => k2 (by rw [e]; rfl))
    all_goals (have n3 : c ≠ 10 := fun e => k3 (by rw [e]; rfl))
    all_goals (have n4 : c ≠ 9 := fun e => k4 (by rw [e]; rfl))
    all_goals (have n5 : c ≠ 13 := fun e => k5 (by rw [e]; rfl))
    · rw [esc_plain n1 n2 n3 n4 n5, if_pos ⟨by omega, by omega⟩]
    · exact hexs n1 n2 n3 n4 n5 (by omega)
    · exact hexs n1 n2 n3 n4 n5 (by omega)
  · have hl := escs_len y
    rw [List.take_of_length_le (by omega), b34]
    exact ⟨by simp; omega, rfl⟩
theorem shoOk : Ok shoC := okW shoV_eq trivial shoH
theorem piece_at {y : By} {x : Nat} (h : x < y.length) : (y.take (x + 1)).drop x = [y.getD x 0] := by
  rw [take_next h, List.drop_left' (by rw [List.length_take]; omega)]
theorem iadd8 {n : Nat} (h : n < 16) : iadd .u8 (n : Int) 1 = ((n + 1 : Nat) : Int) := by
  rw [show ((n + 1 : Nat) : Int) = (n : Int) + 1 by omega]
  exact inR_wrap (inR_iff.2 ⟨by show (0 : Int) ≤ _; omega, by show _ ≤ (255 : Int); omega⟩)
theorem BIG_eq : BIG = 9223372036854775807 := rfl
theorem scat_eq (a b : By) : scat a b = a ++ b := rfl
theorem digs_piece {n : Nat} (h : n < 16) : (digs.take (n + 1)).drop n = [hexD n] := by
  rw [piece_at (show n < digs.length from h), digs_at h]
theorem rqtH (y : By) (hy : rqtC.pre y) : rqtVC y := by
  have hy : y.length ≤ 1000000000000000 := hy
  unfold rqtVC
  rw [show ((48 : UInt8) :: 49 :: 50 :: 51 :: 52 :: 53 :: 54 :: 55 :: 56 :: 57 :: 97 :: 98 :: 99 :: 100 :: 101 :: 102 :: []) = digs from rfl]
  simp only [Rfs_eq, Tt_eq, Bth_eq, and_true, ile_t, ile_f, ilt_t, ilt_f, ieq_t, ieq_f, slen_eq, llen_eq, scat_eq, sat_nat, BIG_eq]
  refine ⟨⟨0, rfl, rfl, ⟨by omega⟩⟩, fun x hx => ?_⟩
  have hx := hx.out
  refine ⟨fun h => ?_, fun h => ?_⟩
  · have hlt : x < y.length := by omega
    have ht := escs_take hlt
    have hl := escs_len (y.take x)
    have hp := piece_at hlt
    rw [List.length_take] at hl
    have e0 : iadd .i64 (x : Int) 1 = ((x + 1 : Nat) : Int) := iadd64 (by omega) (by omega)
    rw [e0]
    have hlt' : x + 1 ≤ y.length := hlt
    have htl : (y.take (x + 1)).length = x + 1 := by rw [List.length_take]; omega
    simp only [ltake_nat, ldrop_nat, hp, htl]
    generalize y.getD x 0 = c at *
    have nx : ∀ t : By, escF c = t → (((34 :: escs (y.take x) ++ t : By).length : Nat) : Int) ≤ 9223372036854775807 ∧ ∃ z : Nat, (34 :: escs (y.take x) ++ t : By) = 34 :: escs (y.take z) ∧ ((x + 1 : Nat) : Int) = (z : Int) ∧ Iv (z ≤ y.length ∧ y.length - z < y.length - x) := fun t e => by
      have := escF_len c
      rw [e] at this
      refine ⟨by simp; omega, x + 1, ?_, rfl, ⟨by omega, by omega⟩⟩
      rw [ht, e]; rfl
    have pt : ∀ t : By, t.length ≤ 4 → (((34 :: escs (y.take x) ++ t : By).length : Nat) : Int) ≤ 9223372036854775807 := fun t e => by simp; omega
    have two : ∀ a b : By, (34 :: escs (y.take x) ++ a) ++ b = (34 :: escs (y.take x) ++ (a ++ b) : By) := fun a b => List.append_assoc _ _ _
    have hexs : c ≠ 34 → c ≠ 92 → c ≠ 10 → c ≠ 9 → c ≠ 13 → ¬ (32 ≤ c.toNat ∧ c.toNat ≤ 126) → escF c = [92, 120, hexD (c.toNat / 16), hexD (c.toNat % 16)] := fun h1 h2 h3 h4 h5 h6 => by rw [esc_plain h1 h2 h3 h4 h5, if_neg h6]
    have hb := c.toNat_lt
    have e1 := digs_piece (show c.toNat / 16 < 16 by omega)
    have e2 := digs_piece (show c.toNat % 16 < 16 by omega)
    have e3 := iadd8 (show c.toNat / 16 < 16 by omega)
    have e4 := iadd8 (show c.toNat % 16 < 16 by omega)
    have hd : digs.length = 16 := rfl
    simp only [ishr4, iand15, e3, e4, ltake_nat, ldrop_nat, e1, e2, hd, two, List.length_take]
    refine ⟨by omega, h, fun k1 => ⟨pt _ (by simp), by omega, by omega, by omega, by omega, nx _ ?_⟩, fun k1 => ⟨fun k2 => ⟨pt _ (by simp), by omega, by omega, by omega, by omega, nx _ ?_⟩, fun k2 => ⟨fun k3 => nx _ ?_, fun k3 => ⟨fun k4 => nx _ ?_, fun k4 => ⟨fun k5 => nx _ ?_, fun k5 => ⟨fun k6 => ⟨pt _ (by simp), by omega, by omega, by omega, by omega, by omega, by omega, pt _ (by simp), by omega, by omega, by omega, by omega, nx _ ?_⟩,
      fun k6 => ⟨fun k7 => ⟨pt _ (by simp), by omega, by omega, by omega, by omega, by omega, by omega, pt _ (by simp), by omega, by omega, by omega, by omega, nx _ ?_⟩, fun k7 => ⟨by omega, by omega, by omega, by omega, nx _ ?_⟩⟩⟩⟩⟩⟩⟩⟩
    · obtain rfl : c = 34 := byte_eq.1 k1
      rfl
    · obtain rfl : c = 92 := byte_eq.1 k2
      rfl
    · obtain rfl : c = 10 := byte_eq.1 k3
      rfl
    · obtain rfl : c = 9 := byte_eq.1 k4
      rfl
    · obtain rfl : c = 13 := byte_eq.1 k5
      rfl
    all_goals (have n1 : c ≠ 34 := fun e => k1 (by rw [e]; rfl))
    all_goals (have n2 : c ≠ 92 := fun e => k2 (by rw [e]; rfl))
    all_goals (have n3 : c ≠ 10 := fun e => k3 (by rw [e]; rfl))
    all_goals (have n4 : c ≠ 9 := fun e => k4 (by rw [e]; rfl))
    all_goals (have n5 : c ≠ 13 := fun e => k5 (by rw [e]; rfl))
    · exact hexs n1 n2 n3 n4 n5 (by omega)
    · exact hexs n1 n2 n3 n4 n5 (by omega)
    · rw [esc_plain n1 n2 n3 n4 n5, if_pos ⟨by omega, by omega⟩]
  · have hl := escs_len y
    rw [List.take_of_length_le (by omega)]
    exact ⟨by simp; omega, rfl⟩
theorem rqtOk : Ok rqtC := okW rqtV_eq trivial rqtH
theorem take_succD {α : Type} (d : α) {l : List α} {i : Nat} (h : i < l.length) : l.take (i + 1) = l.take i ++ [l.getD i d] := by
  rw [List.take_succ_eq_append_getElem h]
  simp [h]
theorem bulk_eq (y : Sv) : bulkS y = baseS y + patsN y.rules := rfl
theorem patsN_app (a b : List Pat) : patsN (a ++ b) = patsN a + patsN b := by unfold patsN; simp
theorem patsN_take (l : List Pat) (i : Nat) : patsN (l.take i) ≤ patsN l := by
  have := patsN_app (l.take i) (l.drop i)
  rw [List.take_append_drop] at this
  omega
theorem patsN_get {l : List Pat} {i : Nat} (h : i < l.length) : (l.getD i ([], [])).1.length + (l.getD i ([], [])).2.length ≤ patsN l := by
  have h1 := take_succD ([], []) h
  have h2 := patsN_take l (i + 1)
  rw [h1, patsN_app] at h2
  have : patsN [l.getD i ([], [])] = (l.getD i ([], [])).1.length + (l.getD i ([], [])).2.length := by simp [patsN]
  omega
theorem ruleF_len (p : Pat) : (ruleF p).length ≤ 4 * (p.1.length + p.2.length) + 4 := by
  have := shownF_len p.2
  unfold ruleF
  simp; omega
theorem flat_len (l : List Pat) : (l.flatMap ruleF).length ≤ 4 * l.length + 4 * patsN l := by
  induction l with
  | nil => simp
  | cons p l ih =>
    have h1 := ruleF_len p
    have e : patsN (p :: l) = (p.1.length + p.2.length) + patsN l := by simp [patsN]
    rw [List.flatMap_cons, List.length_append, List.length_cons, e]; omega
theorem ruls_len (y : Sv) (i : Nat) : (ruls y i).length ≤ 4 + 4 * y.rules.length + 4 * patsN y.rules := by
  have h1 := flat_len (y.rules.take i)
  have h2 := patsN_take y.rules i
  have h3 : (y.rules.take i).length ≤ y.rules.length := by rw [List.length_take]; omega
  unfold ruls
  rw [List.length_append, show kLoad.length = 4 from rfl]; omega
theorem ruls_next {y : Sv} {i : Nat} (h : i < y.rules.length) : ruls y (i + 1) = ruls y i ++ ruleF (y.rules.getD i ([], [])) := by
  unfold ruls
  rw [take_succD ([], []) h]
  simp
theorem itoa_le {n : Int} (h : inR .i64 n = true) : (Lib.itoa n).length ≤ 21 := by
  have := inR64.1 h
  exact Lib.itoa_length_le n this.1 this.2
theorem wri1 {y : Sv} (h : y.kind = 1) : writF y = kCreate ++ 32 :: y.name := by unfold writF; simp [h]
theorem wri5 {y : Sv} (h : y.kind = 5) : writF y = kRemove ++ 32 :: y.name := by unfold writF; simp [h]
theorem wri2 {y : Sv} (h : y.kind = 2) : writF y = kAppend ++ 32 :: (y.name ++ 32 :: shownF y.data) := by unfold writF; simp [h]
theorem wri3 {y : Sv} (h : y.kind = 3) : writF y = kRename ++ 32 :: (y.name ++ 32 :: y.to) := by unfold writF; simp [h]
theorem wri4 {y : Sv} (h : y.kind = 4) : writF y = kCut ++ 32 :: (y.name ++ 32 :: Lib.itoa y.n) := by unfold writF; simp [h]
theorem wri6 {y : Sv} (h : y.kind = 6) : writF y = kPoll := by unfold writF; simp [h]
theorem wri10 {y : Sv} (h : y.kind = 10) : writF y = kOpen := by unfold writF; simp [h]
theorem wri8 {y : Sv} (h : y.kind = 8) : writF y = kQuery ++ 32 :: Lib.itoa y.n := by unfold writF; simp [h]
theorem wri9 {y : Sv} (h : y.kind = 9) : writF y = kCrash ++ 32 :: Lib.itoa y.n := by unfold writF; simp [h]
theorem wri7 {y : Sv} (h : y.kind = 7) : writF y = kLoad ++ (y.rules.flatMap ruleF ++ (if y.cont = [] then [] else 32 :: (contB ++ 32 :: shownF y.cont))) := by unfold writF; simp [h]
theorem wri0 {y : Sv} (h1 : y.kind ≠ 1) (h2 : y.kind ≠ 5) (h3 : y.kind ≠ 2) (h4 : y.kind ≠ 3) (h5 : y.kind ≠ 4) (h6 : y.kind ≠ 6) (h7 : y.kind ≠ 10) (h8 : y.kind ≠ 8) (h9 : y.kind ≠ 9) (h10 : y.kind ≠ 7) : writF y = [] := by
  unfold writF; simp [h1, h2, h3, h4, h5, h6, h7, h8, h9, h10]
theorem wriH (y : Sv) (hy : wriC.pre y) : wriVC y := by
  obtain ⟨y1, y2⟩ : bulkS y ≤ 2000 ∧ y.rules.length ≤ 1000000000000 := hy
  have hbk := bulk_eq y
  have hn : y.name.length + y.to.length + y.data.length + y.cont.length ≤ 2000 := by have : baseS y = y.name.length + y.to.length + y.data.length + y.cont.length := rfl; omega
  unfold wriVC
  simp only [Rfs_eq, Bth_eq, and_true, ile_t, ile_f, ilt_t, ilt_f, ieq_t, ieq_f, seq_t, seq_f, slen_eq, llen_eq, scat_eq, BIG_eq, gt_nat, Bool.not_eq_true', Bool.not_eq_false']
  rintro ⟨g1, g2, g3, g4, g5, g6, g7⟩
  have hi := itoa_le g2
  have hs1 := shownF_len y.data
  have hs2 := shownF_len y.cont
  refine ⟨fun k => ⟨by simp; omega, by rw [wri1 k]; rfl⟩, fun n1 => ⟨fun k => ⟨by simp; omega, by rw [wri5 k]; rfl⟩, fun n2 => ⟨fun k => ⟨by simp; omega, by simp; omega, ⟨by omega⟩, by simp; omega, by rw [wri2 k]; simp [kAppend]⟩, fun n3 => ⟨fun k => ⟨by simp; omega, by simp; omega, by simp; omega, by rw [wri3 k]; simp [kRename]⟩,
    fun n4 => ⟨fun k => ⟨by simp; omega, by simp; omega, ⟨g2⟩, by simp; omega, by rw [wri4 k]; simp [kCut]⟩, fun n5 => ⟨fun k => by rw [wri6 k]; rfl, fun n6 => ⟨fun k => by rw [wri10 k]; rfl, fun n7 => ⟨fun k => ⟨⟨g2⟩, by simp; omega, by rw [wri8 k]; rfl⟩, fun n8 => ⟨fun k => ⟨⟨g2⟩, by simp; omega, by rw [wri9 k]; rfl⟩, fun n9 => ⟨fun k => ⟨⟨0, rfl, rfl, ⟨by omega⟩⟩, fun x hx => ?_⟩,
    fun n10 => (wri0 n1 n2 n3 n4 n5 n6 n7 n8 n9 n10).symm⟩⟩⟩⟩⟩⟩⟩⟩⟩⟩
  have hx := hx.out
  have hr := ruls_len y x
  refine ⟨fun h => ?_, fun h => ⟨fun hc => ⟨⟨by omega⟩, by simp; omega, by simp; omega, ?_⟩, fun hc => ?_⟩⟩
  · have hlt : x < y.rules.length := by omega
    have hg := patsN_get hlt
    have hnx := ruls_next hlt
    generalize y.rules.getD x ([], []) = p at *
    have hs3 := shownF_len p.2
    refine ⟨by omega, h, by simp; omega, by simp; omega, ⟨by omega⟩, by simp; omega, by simp; omega, x + 1, ?_, iadd64 (by omega) (by omega), ⟨by omega, by omega⟩⟩
    rw [hnx]; simp [ruleF]
  · rw [wri7 k, if_neg hc]
    unfold ruls
    rw [List.take_of_length_le (by omega)]; simp [contB]
  · rw [wri7 k, if_pos hc]
    unfold ruls
    rw [List.take_of_length_le (by omega)]; simp
theorem wriOk (hi : Ok itoC) : Ok wriC := okW wriV_eq ⟨shoOk, hi⟩ wriH
theorem eqpH (y : List Pat × List Pat) (_hy : eqpC.pre y) : eqpVC y := by
  obtain ⟨a, b⟩ := y
  unfold eqpVC
  simp only [Rfs_eq, Bth_eq, and_true, ile_t, ile_f, ilt_t, ilt_f, ieq_t, ieq_f, llen_eq, gt_nat, Bool.not_eq_true', Bool.not_eq_false']
  refine fun hm => ⟨fun h => (decide_eq_false fun e => h (by rw [e])).symm, fun h => ⟨⟨0, rfl, ⟨by omega, rfl⟩⟩, fun x hx => ?_⟩⟩
  obtain ⟨h1, h2⟩ := hx.out
  refine ⟨fun k => ⟨by omega, k, by omega, by omega, fun e => ?_, fun e => ⟨x + 1, iadd64 (by omega) (by omega), ⟨⟨by omega, ?_⟩, by omega⟩⟩⟩, fun k => ?_⟩
  · refine (decide_eq_false fun q => ?_).symm
    rw [q] at e
    simp [seq] at e
  · have e : (seq (a.getD x ([], [])).1 (b.getD x ([], [])).1 && seq (a.getD x ([], [])).2 (b.getD x ([], [])).2) = true := e
    rw [Bool.and_eq_true, seq_t, seq_t] at e
    rw [take_succD ([], []) (show x < a.length by omega), take_succD ([], []) (show x < b.length by omega), h2, Prod.ext e.1 e.2]
  · rw [List.take_of_length_le (by omega), List.take_of_length_le (by omega)] at h2
    exact (decide_eq_true h2).symm
theorem eqpOk : Ok eqpC := okW eqpV_eq trivial eqpH
theorem samH (y : Sv × Sv) (_hy : samC.pre y) : samVC y := by
  obtain ⟨a, b⟩ := y
  unfold samVC
  simp only [Rfs_eq, Bth_eq, and_true, ieq_t, ieq_f, seq_t, seq_f]
  unfold sameF
  refine ⟨fun h1 => ⟨fun h2 => ⟨fun h3 => ⟨fun h4 => ⟨fun h5 => ⟨fun h6 => ⟨⟨trivial⟩, ?_⟩, fun h6 => ?_⟩, fun h5 => ?_⟩, fun h4 => ?_⟩, fun h3 => ?_⟩, fun h2 => ?_⟩, fun h1 => ?_⟩
  · simp [h1, h2, h3, h4, h5, h6]
  · simp [h6]
  · simp [h5]
  · simp [h4]
  · simp [h3]
  · simp [h2]
  · simp [h1]
theorem samOk : Ok samC := okW samV_eq eqpOk samH
theorem setGo_bulk : ∀ (acc : List Pat) (l : List Wd), patsN (setGo acc l).1 + (setGo acc l).2.1.length ≤ patsN acc + wsum l
  | acc, [] => by simp [setGo]
  | acc, [_] => by simp [setGo]
  | acc, a :: b :: t => by
    have e : wsum (a :: b :: t) = a.1.length + (b.1.length + wsum t) := rfl
    unfold setGo
    cases !a.2 && b.2 with
    | false => simp
    | true =>
      simp only [cond_true]
      by_cases h : t = [] ∧ a.1 = contB
      · rw [if_pos h]; simp only; omega
      · rw [if_neg h]
        have := setGo_bulk (acc ++ [(a.1, b.1)]) t
        have e2 : patsN (acc ++ [(a.1, b.1)]) = patsN acc + (a.1.length + b.1.length) := by rw [patsN_app]; simp [patsN]
        omega
theorem setF_bulk (l : List Wd) : patsN (setF l).1 + (setF l).2.1.length ≤ wsum l := by
  unfold setF
  split
  · have := setGo_bulk [] l
    have e : patsN [] = 0 := rfl
    omega
  · simp [patsN]
theorem wsum_wd {l : List Wd} (h : 1 ≤ l.length) : (wd l 1).1.length + (wd l 2).1.length ≤ wsum l ∧ wsum (l.drop 1) ≤ wsum l := by
  match l, h with
  | [a], _ => simp [wd, wsum]
  | [a, b], _ => simp [wd, wsum]
  | a :: b :: c :: t, _ => simp [wd, wsum]; omega
theorem step_bulk {l : List Wd} {v : Sv} (hl : 1 ≤ l.length) (h : stepF l = some v) : bulkS v ≤ wsum l := by
  obtain ⟨h1, h2⟩ := wsum_wd hl
  have h3 := setF_bulk (l.drop 1)
  by_cases k1 : w0 l = kCreate
  · rw [stepF_create k1] at h
    split at h <;> cases h
    simp only [bulk_eq, baseS, sv0]
    simp [patsN] at h3 ⊢; try omega
  by_cases k2 : w0 l = kRemove
  · rw [stepF_remove k2] at h
    split at h <;> cases h
    simp only [bulk_eq, baseS, sv0]
    simp [patsN] at h3 ⊢; try omega
  by_cases k3 : w0 l = kAppend
  · rw [stepF_append k3] at h
    split at h <;> cases h
    simp only [bulk_eq, baseS, sv0]
    simp [patsN] at h3 ⊢; try omega
  by_cases k4 : w0 l = kRename
  · rw [stepF_rename k4] at h
    split at h <;> cases h
    simp only [bulk_eq, baseS, sv0]
    simp [patsN] at h3 ⊢; try omega
  by_cases k5 : w0 l = kCut
  · rw [stepF_cut k5] at h
    split at h <;> cases h
    simp only [bulk_eq, baseS, sv0]
    simp [patsN] at h3 ⊢; try omega
  by_cases k6 : w0 l = kPoll
  · rw [stepF_poll k6] at h
    split at h <;> cases h
    simp only [bulk_eq, baseS, sv0]
    simp [patsN] at h3 ⊢; try omega
  by_cases k7 : w0 l = kOpen
  · rw [stepF_open k7] at h
    split at h <;> cases h
    simp only [bulk_eq, baseS, sv0]
    simp [patsN] at h3 ⊢; try omega
  by_cases k8 : w0 l = kQuery
  · rw [stepF_query k8] at h
    split at h <;> cases h
    simp only [bulk_eq, baseS, sv0]
    simp [patsN] at h3 ⊢; try omega
  by_cases k9 : w0 l = kCrash
  · rw [stepF_crash k9] at h
    split at h <;> cases h
    simp only [bulk_eq, baseS, sv0]
    simp [patsN] at h3 ⊢; try omega
  by_cases k10 : w0 l = kLoad
  · rw [stepF_load k10] at h
    split at h <;> cases h
    simp only [bulk_eq, baseS, sv0, List.length_nil]
    omega
  · rw [stepF_else k1 k2 k3 k4 k5 k6 k7 k8 k9 k10] at h; cases h
theorem parse_bulk {s : By} {v : Sv} (h : parseM s = some v) : bulkS v ≤ 2000 := by
  unfold parseM at h
  split at h
  · cases h
  · rename_i hl
    cases hw : wordsM s with
    | none => rw [hw] at h; cases h
    | some l =>
      rw [hw] at h
      simp only at h
      split at h
      · cases h
      · have hs := wGo_sum _ _ _ hw
        have hp := List.length_pos_iff.2 hs.1
        have := step_bulk hp h
        have := hs.2
        omega
theorem lineF_none {y : Sv} (h : parseM (writF y) = none) : lineF y = [] := by unfold lineF; rw [h]; rfl
theorem lineF_diff {y : Sv} (h : sameF (parseF (writF y)) y = false) : lineF y = [] := by unfold lineF; rw [h]; simp
theorem lineF_same {y : Sv} (h1 : (parseM (writF y)).isSome = true) (h : sameF (parseF (writF y)) y = true) : lineF y = writF y := by unfold lineF; rw [h, h1]; rfl
theorem parseN_none {s : By} : parseN s ≠ 0 → parseM s = none := fun h => by
  unfold parseN at h
  cases hp : parseM s with
  | none => rfl
  | some v => rw [hp] at h; exact absurd rfl h
theorem parseN_some {s : By} : parseN s = 0 → (parseM s).isSome = true := fun h => by
  unfold parseN at h
  cases hp : parseM s with
  | some v => rfl
  | none =>
    rw [hp] at h
    split at h
    · rename_i hx; cases hx
    · split at h <;> cases h
theorem line_big {y : Sv} (h : 2000 < bulkS y) : lineF y = [] := by
  cases hp : parseM (writF y) with
  | none => exact lineF_none hp
  | some v =>
    have hf : parseF (writF y) = v := by unfold parseF; rw [hp]; rfl
    have hb := parse_bulk hp
    refine lineF_diff ?_
    rw [hf]
    cases hs : sameF v y with
    | false => rfl
    | true => rw [sameF_iff.1 hs] at hb; omega
theorem linH (y : Sv) (hy : linC.pre y) : linVC y := by
  obtain ⟨y1, y4⟩ : midS y := hy
  have hbk := bulk_eq y
  have hbs : baseS y = y.name.length + y.to.length + y.data.length + y.cont.length := rfl
  unfold linVC
  simp only [Rfs_eq, Bth_eq, and_true, ile_t, ile_f, ilt_t, ilt_f, ieq_t, ieq_f, slen_eq, llen_eq, gt_nat, Bool.not_eq_true', Bool.not_eq_false']
  have hpm : ∀ i, patsN (y.rules.take i) ≤ 2000000 := fun i => by have := patsN_take y.rules i; omega
  refine ⟨⟨⟨0, ?_, rfl, ⟨by omega⟩⟩, fun x hx => ?_⟩, fun z hz => ?_⟩
  · rw [iadd64 (a := ((y.name.length : Nat) : Int)) (b := ((y.to.length : Nat) : Int)) (by omega) (by omega), iadd64 (a := ((y.name.length : Nat) : Int) + ((y.to.length : Nat) : Int)) (by omega) (by omega), iadd64 (by omega) (by omega)]
    have : patsN (y.rules.take 0) = 0 := rfl
    omega
  · have hx := hx.out
    refine ⟨fun h => ?_, fun h => ⟨_, rfl, ⟨.inr ?_⟩⟩⟩
    · have hlt : x < y.rules.length := by omega
      have hg := patsN_get hlt
      have hnx : patsN (y.rules.take (x + 1)) = patsN (y.rules.take x) + ((y.rules.getD x ([], [])).1.length + (y.rules.getD x ([], [])).2.length) := by
        rw [take_succD ([], []) hlt, patsN_app]; simp [patsN]
      have h1 := hpm x
      have h2 := hpm (x + 1)
      have h3 := patsN_take y.rules (x + 1)
      have e : iadd .i64 ((baseS y + patsN (y.rules.take x) : Nat) : Int) (iadd .i64 (((y.rules.getD x ([], [])).1.length : Nat) : Int) (((y.rules.getD x ([], [])).2.length : Nat) : Int)) = ((baseS y + patsN (y.rules.take (x + 1)) : Nat) : Int) := by
        rw [iadd64 (a := (((y.rules.getD x ([], [])).1.length : Nat) : Int)) (by omega) (by omega), iadd64 (by omega) (by omega)]; omega
      rw [e]
      exact ⟨by omega, h, fun k => ⟨_, rfl, ⟨.inl ⟨by omega, by omega⟩⟩⟩, fun k => ⟨x + 1, rfl, iadd64 (by omega) (by omega), ⟨by omega, by omega⟩⟩⟩
    · rw [List.take_of_length_le (by omega)]; omega
  · have hz := hz.out
    refine ⟨fun k => (line_big (by omega)).symm, fun k => ⟨⟨by omega, by omega⟩, ⟨trivial⟩, fun h => (lineF_none (parseN_none h)).symm, fun h => ⟨⟨trivial⟩, fun e => (lineF_diff e).symm, fun e => (lineF_same (parseN_some h) e).symm⟩⟩⟩
theorem linOk (hx : Ok idxC) (hn : Ok numC) (hi : Ok itoC) : Ok linC := okW linV_eq ⟨wriOk hi, parOk hx hn, samOk⟩ linH
theorem pats_mid {y : Sv} (h : midS y) : patsN y.rules ≤ 2000000 ∧ y.name.length + y.to.length + y.data.length + y.cont.length ≤ 2000000 := by
  have hbk := bulk_eq y
  have hbs : baseS y = y.name.length + y.to.length + y.data.length + y.cont.length := rfl
  have := h.1
  omega
theorem lineF_ne {y : Sv} (h : parseF (writF y) ≠ y) : lineF y = [] := lineF_diff (by
  cases hs : sameF (parseF (writF y)) y with
  | false => rfl
  | true => exact absurd (sameF_iff.1 hs) h)
theorem rliH (y : Sv) (hy : rliC.pre y) : rliVC y := by
  have hm : midS y := hy
  obtain ⟨hp, hq⟩ := pats_mid hm
  obtain ⟨y1, y4⟩ := hm
  unfold rliVC
  simp only [Rfs_eq, Bth_eq, and_true, ile_t, ile_f, ilt_t, ilt_f, ieq_t, ieq_f, seq_t, seq_f, slen_eq, llen_eq, scat_eq, BIG_eq, gt_nat, Bool.not_eq_true', Bool.not_eq_false']
  rintro ⟨g1, g2, g3, g4, g5, g6, g7⟩
  have hi := itoa_le g2
  have hs1 := shownF_len y.data
  have hs2 := shownF_len y.cont
  refine ⟨⟨fun k => ⟨by simp; omega, (), by rw [wri1 k]; rfl, ⟨trivial⟩⟩, fun n1 => ⟨fun k => ⟨by simp; omega, (), by rw [wri5 k]; rfl, ⟨trivial⟩⟩, fun n2 => ⟨fun k => ⟨by simp; omega, by simp; omega, ⟨by omega⟩, by simp; omega, (), by rw [wri2 k]; simp [kAppend], ⟨trivial⟩⟩, fun n3 => ⟨fun k => ⟨by simp; omega, by simp; omega, by simp; omega, (), by rw [wri3 k]; simp [kRename], ⟨trivial⟩⟩,
    fun n4 => ⟨fun k => ⟨by simp; omega, by simp; omega, ⟨g2⟩, by simp; omega, (), by rw [wri4 k]; simp [kCut], ⟨trivial⟩⟩, fun n5 => ⟨fun k => ⟨(), by rw [wri6 k]; rfl, ⟨trivial⟩⟩, fun n6 => ⟨fun k => ⟨(), by rw [wri10 k]; rfl, ⟨trivial⟩⟩, fun n7 => ⟨fun k => ⟨⟨g2⟩, by simp; omega, (), by rw [wri8 k]; rfl, ⟨trivial⟩⟩, fun n8 => ⟨fun k => ⟨⟨g2⟩, by simp; omega, (), by rw [wri9 k]; rfl, ⟨trivial⟩⟩, fun n9 => ⟨fun k => ⟨⟨0, rfl, rfl, ⟨by omega⟩⟩, fun x hx => ?_⟩,
    fun n10 => ⟨(), (wri0 n1 n2 n3 n4 n5 n6 n7 n8 n9 n10).symm, ⟨trivial⟩⟩⟩⟩⟩⟩⟩⟩⟩⟩⟩⟩, fun _ _ => ⟨⟨trivial⟩, fun h => (lineF_none (parseN_none h)).symm, fun h => ?_⟩⟩
  · have hx := hx.out
    have hr := ruls_len y x
    refine ⟨fun h => ?_, fun h => ⟨fun hc => ⟨by simp; omega, ⟨by omega⟩, by simp; omega, (), ?_, ⟨trivial⟩⟩, fun hc => ⟨(), ?_, ⟨trivial⟩⟩⟩⟩
    · have hlt : x < y.rules.length := by omega
      have hg := patsN_get hlt
      have hnx := ruls_next hlt
      generalize y.rules.getD x ([], []) = p at *
      have hs3 := shownF_len p.2
      refine ⟨by simp; omega, by omega, h, by simp; omega, by simp; omega, by omega, h, ⟨by omega⟩, by simp; omega, x + 1, ?_, iadd64 (by omega) (by omega), ⟨by omega, by omega⟩⟩
      rw [hnx]; simp [ruleF]
    · rw [wri7 k, if_neg hc]
      unfold ruls
      rw [List.take_of_length_le (by omega)]; simp [contB]
    · rw [wri7 k, if_pos hc]
      unfold ruls
      rw [List.take_of_length_le (by omega)]; simp
  · have hso := parseN_some h
    have ne : parseF (writF y) ≠ y → [] = lineF y := fun e => (lineF_ne e).symm
    refine ⟨fun e => ne fun q => e (by rw [q]), fun e1 => ⟨fun e => ne fun q => e (by rw [q]), fun e2 => ⟨fun e => ne fun q => e (by rw [q]), fun e3 => ⟨fun e => ne fun q => e (by rw [q]), fun e4 => ⟨fun e => ne fun q => e (by rw [q]), fun e5 => ⟨fun e => ne fun q => e (by rw [q]), fun e6 => ⟨fun e => ne fun q => e (by rw [q]), fun e7 => ⟨⟨0, rfl, ⟨by omega, rfl⟩⟩, fun x hx => ?_⟩⟩⟩⟩⟩⟩⟩⟩
    obtain ⟨h1, h2⟩ := hx.out
    refine ⟨fun k => ⟨by omega, by omega, by omega, k, fun e => ne fun q => ?_, fun e => ⟨x + 1, iadd64 (by omega) (by omega), ⟨⟨by omega, ?_⟩, by omega⟩⟩⟩, fun k => ?_⟩
    · rw [q] at e; simp [seq] at e
    · have e : (seq ((parseF (writF y)).rules.getD x ([], [])).1 (y.rules.getD x ([], [])).1 && seq ((parseF (writF y)).rules.getD x ([], [])).2 (y.rules.getD x ([], [])).2) = true := e
      rw [Bool.and_eq_true, seq_t, seq_t] at e
      rw [take_succD ([], []) (show x < (parseF (writF y)).rules.length by omega), take_succD ([], []) (show x < y.rules.length by omega), h2, Prod.ext e.1 e.2]
    · rw [List.take_of_length_le (by omega), List.take_of_length_le (by omega)] at h2
      refine (lineF_same hso (sameF_iff.2 ?_)).symm
      cases hq : parseF (writF y)
      cases y
      rw [hq] at e1 e2 e3 e4 e5 e6 h2
      simp only at e1 e2 e3 e4 e5 e6 h2
      subst e1 e2 e3 e4 e5 e6 h2
      rfl
theorem rliOk (hi : Ok itoC) : Ok rliC := okW rliV_eq ⟨rqtOk, hi, rpaOk⟩ rliH
end Go.Proofs.YtjdehneddakpnaaGreatDoor.sx
namespace Go.Proofs.YtjdehneddakpnaaGreatDoor.sx
open Go Go.RowKit
set_option maxRecDepth 100000
def r0 : Rec := Rec.mk 0 0 0 [] 0 0 0 0 0 0 0 0 0 0 0
end Go.Proofs.YtjdehneddakpnaaGreatDoor.sx
namespace Go.Proofs.YtjdehneddakpnaaGreatDoor.sx
open Go Go.RowKit
set_option maxRecDepth 100000
theorem sbyH (y : By × By) (hy : sbyC.pre y) : sbyVC y := by
  obtain ⟨a, b⟩ := y
  have hm : a.length ≤ 100000000 := hy
  unfold sbyVC
  simp only [Rfs_eq, Bth_eq, and_true, ile_t, ile_f, ilt_t, ilt_f, ieq_t, ieq_f, llen_eq, gt_nat, Bool.not_eq_true', Bool.not_eq_false']
  refine ⟨fun h => (decide_eq_false fun e => h (by rw [e])).symm, fun h => ⟨⟨0, rfl, ⟨by omega, rfl⟩⟩, fun x hx => ?_⟩⟩
  obtain ⟨h1, h2⟩ := hx.out
  refine ⟨fun k => ⟨by omega, k, by omega, by omega, fun e => ?_, fun e => ⟨x + 1, iadd64 (by omega) (by omega), ⟨⟨by omega, ?_⟩, by omega⟩⟩⟩, fun k => ?_⟩
  · exact (decide_eq_false fun q => e (by rw [q])).symm
  · rw [take_succD 0 (show x < a.length by omega), take_succD 0 (show x < b.length by omega), h2, byte_eq.1 e]
  · rw [List.take_of_length_le (by omega), List.take_of_length_le (by omega)] at h2
    exact (decide_eq_true h2).symm
theorem sbyOk : Ok sbyC := okW sbyV_eq trivial sbyH
theorem spaH (y : List Pat × List Pat) (hy : spaC.pre y) : spaVC y := by
  obtain ⟨a, b⟩ := y
  have hm : a.length ≤ 100000000 := hy
  unfold spaVC
  simp only [Rfs_eq, Bth_eq, and_true, ile_t, ile_f, ilt_t, ilt_f, ieq_t, ieq_f, llen_eq, gt_nat, Bool.not_eq_true', Bool.not_eq_false']
  refine ⟨fun h => (decide_eq_false fun e => h (by rw [e])).symm, fun h => ⟨⟨0, rfl, ⟨by omega, rfl⟩⟩, fun x hx => ?_⟩⟩
  obtain ⟨h1, h2⟩ := hx.out
  refine ⟨fun k => ⟨by omega, k, by omega, by omega, fun e => ?_, fun e => ⟨x + 1, iadd64 (by omega) (by omega), ⟨⟨by omega, ?_⟩, by omega⟩⟩⟩, fun k => ?_⟩
  · refine (decide_eq_false fun q => ?_).symm
    rw [q] at e
    simp [seq] at e
  · have e : (seq (a.getD x ([], [])).1 (b.getD x ([], [])).1 && seq (a.getD x ([], [])).2 (b.getD x ([], [])).2) = true := e
    rw [Bool.and_eq_true, seq_t, seq_t] at e
    rw [take_succD ([], []) (show x < a.length by omega), take_succD ([], []) (show x < b.length by omega), h2, Prod.ext e.1 e.2]
  · rw [List.take_of_length_le (by omega), List.take_of_length_le (by omega)] at h2
    exact (decide_eq_true h2).symm
theorem spaOk : Ok spaC := okW spaV_eq trivial spaH
theorem lsaH (y : Sv × Sv) (hy : lsaC.pre y) : lsaVC y := by
  obtain ⟨a, b⟩ := y
  obtain ⟨y1, y2⟩ : a.data.length ≤ 100000000 ∧ a.rules.length ≤ 100000000 := hy
  unfold lsaVC
  simp only [Rfs_eq, Bth_eq, and_true, ieq_t, ieq_f, seq_t, seq_f, decide_eq_true_eq, decide_eq_false_iff_not]
  unfold sameF
  refine ⟨fun h1 => ⟨fun h2 => ⟨fun h3 => ⟨fun h4 => ⟨⟨y1⟩, fun h5 => ⟨fun h6 => ⟨⟨y2⟩, ?_⟩, fun h6 => ?_⟩, fun h5 => ?_⟩, fun h4 => ?_⟩, fun h3 => ?_⟩, fun h2 => ?_⟩, fun h1 => ?_⟩
  · simp [h1, h2, h3, h4, h5, h6]
  · simp [h6]
  · simp [h5]
  · simp [h4]
  · simp [h3]
  · simp [h2]
  · simp [h1]
theorem lsaOk : Ok lsaC := okW lsaV_eq ⟨sbyOk, spaOk⟩ lsaH
theorem roomF_len (y : By) : (roomF y).length = y.length + 80 := by unfold roomF; simp
theorem roomH (y : By) (hy : roomC.pre y) : roomVC y := by
  have h0 : y.length ≤ 1073741824 := hy
  unfold roomVC
  have hq : iadd IntKind.i64 (y.length : Int) 80 = (y.length : Int) + 80 := iadd64 (by omega) (by omega)
  have e0 : b8 (0 : Int) = 0 := rfl
  have e12 : b8 (3 : Int) = 3 := rfl
  have hl : ((List.length (lrep ((y.length : Int) + 80) (0 : UInt8)) : Nat) : Int) = (y.length : Int) + 80 := by unfold lrep; rw [List.length_replicate]; omega
  simp only [Rfs_eq, Bth_eq, llen_eq, hq, e0, e12, hl, true_and, and_true, ilt_t, ilt_f, ile_t, fits_t]
  refine ⟨by omega, Int.le_refl _, by omega, ⟨0, by simp, ?_, ⟨by omega⟩⟩, fun x hx => ⟨fun h1 => ⟨by omega, h1, x + 1, ?_, ?_, ⟨by omega, by omega⟩⟩, fun h1 => ?_⟩⟩
  · unfold lover lrep roomP
    have e1 : ((y.length : Int) + 80).toNat = y.length + 80 := by omega
    have e2 : y.take (y.length + 80) = y := List.take_of_length_le (by omega)
    rw [e1, e2]
    simp
  · rw [iadd64 (by omega) (by omega)]; omega
  · have hx2 : x < 80 := by omega
    have e1 : ((y.length : Int) + (x : Int)).toNat = y.length + x := by omega
    unfold lset roomP
    rw [e1, List.set_append_right _ _ (by omega), show y.length + x - y.length = x by omega, List.set_append_right _ _ (by simp)]
    congr 1
    rw [List.length_replicate, Nat.sub_self, show 80 - x = (80 - (x + 1)) + 1 by omega, List.replicate_succ, List.set_cons_zero, List.replicate_succ', List.append_assoc]
    rfl
  · have : x = 80 := by have := hx.out; omega
    subst this
    unfold roomP roomF
    simp
theorem roomOk : Ok roomC := okW roomV_eq trivial roomH
theorem intaH (y : By) (hy : intaC.pre y) : intaVC y := by
  have h0 : y.length ≤ 10000000 := hy
  unfold intaVC
  have hq : iadd IntKind.i64 (y.length : Int) 80 = (y.length : Int) + 80 := iadd64 (by omega) (by omega)
  have hl : (((roomF y).length : Nat) : Int) = (y.length : Int) + 80 := by rw [roomF_len]; omega
  have ht : ltake (roomF y) (y.length : Int) = y := by unfold ltake roomF; simp
  have hg : ∀ x : Nat, x < 80 → gt (0 : UInt8) (roomF y) ((y.length : Int) + (x : Int)).toNat = 3 := fun x hx => by
    have e1 : ((y.length : Int) + (x : Int)).toNat = y.length + x := by omega
    unfold gt roomF
    rw [e1, List.getD_eq_getElem?_getD, List.getElem?_append_right (by omega), show y.length + x - y.length = x by omega, List.getElem?_replicate_of_lt hx]
    rfl
  simp only [Rfs_eq, Tt_eq, Bth_eq, llen_eq, hq, hl, ht, ieq_t, ieq_f, Bool.not_eq_true', Bool.not_eq_false', decide_eq_true_eq, decide_eq_false_iff_not, and_true, ilt_t, ilt_f, ile_t]
  refine ⟨fun h => absurd rfl h, fun _ => ⟨by omega, by omega, ⟨by omega⟩, fun h => absurd trivial h, fun _ => ⟨⟨0, by simp, ⟨by omega⟩⟩, fun x hx => ⟨fun h1 => ?_, fun _ => trivial⟩⟩⟩⟩
  have hx2 : x < 80 := by omega
  rw [hg x hx2]
  refine ⟨by omega, h1, fun h => absurd rfl h, fun _ => ⟨x + 1, ?_, ⟨by omega, by omega⟩⟩⟩
  rw [iadd64 (by omega) (by omega)]; omega
theorem intaOk : Ok intaC := okW intaV_eq sbyOk intaH
theorem setGo_len : ∀ (acc : List Pat) (l : List Wd), (setGo acc l).1.length ≤ acc.length + l.length
  | acc, [] => by simp [setGo]
  | acc, [_] => by simp [setGo]
  | acc, a :: b :: t => by
    unfold setGo
    cases !a.2 && b.2 with
    | false => simp
    | true =>
      simp only [cond_true]
      by_cases h : t = [] ∧ a.1 = contB
      · rw [if_pos h]; simp
      · rw [if_neg h]
        have := setGo_len (acc ++ [(a.1, b.1)]) t
        simp at this ⊢; omega
theorem step_rules {l : List Wd} {v : Sv} (h : stepF l = some v) : v.rules.length ≤ l.length := by
  have h3 : (setF (l.drop 1)).1.length ≤ l.length := by
    unfold setF
    split
    · have := setGo_len [] (l.drop 1)
      simp at this ⊢; omega
    · simp
  by_cases k10 : w0 l = kLoad
  · rw [stepF_load k10] at h
    split at h <;> cases h
    exact h3
  · unfold stepF at h
    simp only at h
    rw [if_neg k10] at h
    by_cases k1 : w0 l = kCreate
    · rw [if_pos k1] at h; split at h <;> cases h; simp [sv0]
    rw [if_neg k1] at h
    by_cases k2 : w0 l = kRemove
    · rw [if_pos k2] at h; split at h <;> cases h; simp [sv0]
    rw [if_neg k2] at h
    by_cases k3 : w0 l = kAppend
    · rw [if_pos k3] at h; split at h <;> cases h; simp [sv0]
    rw [if_neg k3] at h
    by_cases k4 : w0 l = kRename
    · rw [if_pos k4] at h; split at h <;> cases h; simp [sv0]
    rw [if_neg k4] at h
    by_cases k5 : w0 l = kCut
    · rw [if_pos k5] at h; split at h <;> cases h; simp [sv0]
    rw [if_neg k5] at h
    by_cases k6 : w0 l = kPoll
    · rw [if_pos k6] at h; split at h <;> cases h; simp [sv0]
    rw [if_neg k6] at h
    by_cases k7 : w0 l = kOpen
    · rw [if_pos k7] at h; split at h <;> cases h; simp [sv0]
    rw [if_neg k7] at h
    by_cases k8 : w0 l = kQuery
    · rw [if_pos k8] at h; split at h <;> cases h; simp [sv0]
    rw [if_neg k8] at h
    by_cases k9 : w0 l = kCrash
    · rw [if_pos k9] at h; split at h <;> cases h; simp [sv0]
    rw [if_neg k9] at h; cases h
theorem parse_mid (s : By) : midS (parseF s) := by
  cases hp : parseM s with
  | none =>
    have : parseF s = sv0 := by unfold parseF; rw [hp]; rfl
    rw [this]
    exact ⟨by decide, by decide⟩
  | some v =>
    have : parseF s = v := by unfold parseF; rw [hp]; rfl
    rw [this]
    refine ⟨by have := parse_bulk hp; omega, ?_⟩
    unfold parseM at hp
    split at hp
    · cases hp
    · rename_i hl
      cases hw : wordsM s with
      | none => rw [hw] at hp; cases hp
      | some l =>
        rw [hw] at hp
        simp only at hp
        split at hp
        · cases hp
        · have := step_rules hp
          have := (wGo_sum _ _ _ hw).2
          omega
theorem mid_data {y : Sv} (h : midS y) : y.data.length ≤ 100000000 ∧ y.rules.length ≤ 100000000 := by
  have := (pats_mid h).2
  have := h.2
  omega
theorem ieq_self (a : Int) : ieq a a = true := ieq_t.2 rfl
theorem same_self (y : Sv) : sameF y y = true := sameF_iff.2 rfl
theorem lawPH (y : By) (_hy : lawPC.pre y) : lawPVC y := by
  have hm := mid_data (parse_mid y)
  unfold lawPVC
  simp only [Rfs_eq, Tt_eq, Bth_eq, and_true, ieq_self, same_self]
  exact ⟨⟨trivial⟩, ⟨trivial⟩, ⟨hm⟩, fun _ => ⟨fun _ => ⟨trivial⟩, fun h => by cases h⟩, fun h => by cases h⟩
theorem lawPOk (hr : Ok runsC) : Ok lawPC := okW lawPV_eq ⟨parOk idxOk (numOk' atoOk itoOk), rpaOk, lsaOk, hr⟩ lawPH
theorem lawLH (y : Sv) (hy : lawLC.pre y) : lawLVC y := by
  have hb : bigS y := hy
  have hm : midS y := ⟨by have := hb.1; omega, by have := hb.2; omega⟩
  have hd := mid_data hm
  have ht : ltake (roomF y.data) (y.data.length : Int) = y.data := by unfold ltake roomF; simp
  unfold lawLVC
  simp only [Rfs_eq, Tt_eq, Bth_eq, and_true, llen_eq, ht, ilt_t, ilt_f, ile_t, roomF_len]
  have hy2 : Sv.mk y.kind y.n y.name y.to y.data y.rules y.cont = y := rfl
  rw [hy2]
  refine ⟨fun _ => ⟨trivial⟩, fun h1 => ⟨fun _ => ⟨trivial⟩, fun h2 => ⟨⟨by omega⟩, by omega, by omega, ⟨hm⟩, ⟨hm⟩, fun _ => ⟨⟨by omega⟩, fun _ => ⟨trivial⟩, fun h => by cases h⟩, fun h => ?_⟩⟩⟩
  rw [seq_f] at h
  exact absurd rfl h
theorem lawLOk (hr : Ok runsC) : Ok lawLC := okW lawLV_eq ⟨hr, roomOk, linOk idxOk (numOk' atoOk itoOk) itoOk, rliOk itoOk, intaOk⟩ lawLH
/-- a line that is there is its step's -/
theorem line_back {y : Sv} (h : lineF y ≠ []) : parseN (lineF y) = 0 ∧ parseF (lineF y) = y := by
  unfold lineF at h ⊢
  cases hc : (parseM (writF y)).isSome && sameF (parseF (writF y)) y with
  | false => rw [hc] at h; exact absurd rfl h
  | true =>
    rw [Bool.and_eq_true] at hc
    refine ⟨?_, sameF_iff.1 hc.2⟩
    show parseN (writF y) = 0
    unfold parseN
    rw [if_pos hc.1]
theorem parseN_zero {s : By} (h : parseN s ≠ 0) : parseF s = sv0 := by
  have := parseN_none h
  unfold parseF
  rw [this]; rfl
theorem tailB {c1 c1' c2 c2' c3 c3' c4 c4' c5 c5' I M D Q : Prop} (i : I) (m : M) (d : D) (h4 : c3 → c4 → false = true) (h5 : c3 → c5 → false = true) (q : Q) : (c1 → I) ∧ (c1' → (c2 → I) ∧ (c2' → M ∧ (c3 → I ∧ (c4 → false = true) ∧ (c4' → D ∧ (c5 → false = true) ∧ (c5' → Q))) ∧ (c3' → Q))) :=
  ⟨fun _ => i, fun _ => ⟨fun _ => i, fun _ => ⟨m, fun k => ⟨i, h4 k, fun _ => ⟨d, h5 k, fun _ => q⟩⟩, fun _ => q⟩⟩⟩
theorem lawBH (y : Sv × By) (hy : lawBC.pre y) : lawBVC y := by
  obtain ⟨a, l⟩ := y
  have hb : bigS a := hy
  have hm : midS a := ⟨by have := hb.1; omega, by have := hb.2; omega⟩
  have hp := parse_mid l
  have hd := mid_data hp
  have hd2 := mid_data (parse_mid (lineF a))
  have hd3 := mid_data (parse_mid (lineF (parseF l)))
  unfold lawBVC
  have hz : Sv.mk 0 0 [] [] [] [] [] = sv0 := rfl
  simp only [Rfs_eq, Tt_eq, Bth_eq, and_true, llen_eq, hz, ilt_t, ilt_f, ieq_t, ieq_f, seq_t, seq_f, Bool.not_eq_true', Bool.not_eq_false']
  refine tailB ⟨trivial⟩ ⟨hm⟩ ⟨hd2⟩ (fun h k => absurd (line_back h).1 k) (fun h k => ?_) ⟨⟨trivial⟩, fun h => ⟨⟨hd⟩, fun _ => ⟨trivial⟩, fun k => ?_⟩, fun h => ⟨⟨hp⟩, ⟨trivial⟩, fun _ => ⟨trivial⟩, fun k => ⟨fun q => ⟨⟨hd⟩, fun _ => ⟨trivial⟩, fun e => ?_⟩, fun q => absurd (line_back k).1 q⟩⟩⟩
  · rw [(line_back h).2, same_self] at k; cases k
  · rw [parseN_zero h, same_self] at k; cases k
  · rw [(line_back k).2, same_self] at e; cases e
theorem lawBOk (hr : Ok runsC) : Ok lawBC := okW lawBV_eq ⟨hr, linOk idxOk (numOk' atoOk itoOk) itoOk, parOk idxOk (numOk' atoOk itoOk), lsaOk⟩ lawBH
theorem lawYH (y : By) (_hy : lawYC.pre y) : lawYVC y := by
  unfold lawYVC
  have hq : Sv.mk 2 0 [108, 111, 103] [] (cut450 y) [] [] = appS (cut450 y) := rfl
  have hc := cut_len y
  obtain ⟨g1, g2, g3, g4, g5⟩ := line_app_good hc
  have hd : (appS (cut450 y)).data = cut450 y := rfl
  have hn : (appS (cut450 y)).name = [108, 111, 103] := rfl
  simp only [hq, g2, g3, hd, hn, Rfs_eq, Tt_eq, Bth_eq, and_true, llen_eq, ilt_t, ilt_f, ile_t, ieq_t, ieq_f, seq_t, seq_f, Bool.not_eq_true', Bool.not_eq_false']
  have hm : midS (appS (cut450 y)) := ⟨by show 3 + 0 + (cut450 y).length + 0 + 0 ≤ _; omega, by show 0 ≤ _; omega⟩
  generalize lineF (appS (cut450 y)) = L at *
  refine ⟨⟨fun h => ⟨by omega, (), rfl, ⟨trivial⟩⟩, fun h => ⟨(), ?_, ⟨trivial⟩⟩⟩, fun _ _ => ?_⟩
  · unfold cut450; rw [List.take_of_length_le (by omega)]
  · simp only [sat_nat, slen_eq]
    refine ⟨⟨hm⟩, ⟨0, rfl, ⟨by omega⟩⟩, fun x hx => ⟨fun h => ?_, fun _ => ⟨⟨trivial⟩, fun _ => ⟨fun _ => ⟨⟨by omega⟩, fun _ => ⟨fun _ => ⟨trivial⟩, fun h => absurd rfl h⟩, fun h => by simp at h⟩, fun h => absurd rfl h⟩, fun h => absurd h g1⟩⟩⟩
    have hx := hx.out
    have hlt : x < L.length := by omega
    have hg := g5 (L.getD x 0) (by rw [List.getD_eq_getElem?_getD, List.getElem?_eq_getElem hlt]; exact List.getElem_mem hlt)
    generalize L.getD x 0 = c at *
    exact ⟨by omega, h, fun k => by omega, fun _ => ⟨by omega, h, fun k => by omega, fun _ => ⟨x + 1, iadd64 (by omega) (by omega), ⟨⟨by omega, by omega⟩⟩⟩⟩⟩
theorem lawYOk (hr : Ok runsC) : Ok lawYC := okW lawYV_eq ⟨linOk idxOk (numOk' atoOk itoOk) itoOk, parOk idxOk (numOk' atoOk itoOk), sbyOk, hr⟩ lawYH
end Go.Proofs.YtjdehneddakpnaaGreatDoor.sx
