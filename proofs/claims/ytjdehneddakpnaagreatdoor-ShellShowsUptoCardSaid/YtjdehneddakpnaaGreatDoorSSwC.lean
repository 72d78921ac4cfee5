/- The statements: their contracts hold. -/
import Derived.Test.YtjdehneddakpnaaGreatDoorSSwA
import Derived.Lib.ItoaLen
set_option linter.all false
namespace Go.Proofs.YtjdehneddakpnaaGreatDoor.sx
open Go Go.RowKit
noncomputable section
end
end Go.Proofs.YtjdehneddakpnaaGreatDoor.sx
namespace Go.Proofs.YtjdehneddakpnaaGreatDoor.sx
open Go Go.RowKit
end Go.Proofs.YtjdehneddakpnaaGreatDoor.sx
namespace Go.Proofs.YtjdehneddakpnaaGreatDoor.sx
open Go Go.RowKit
noncomputable section
def inSL (args : List (AV D.E)) (s : St D.E) : C (By × List Int) := match args with
  | [a, b] => bnd (asStr a) fun x => bnd (rowsOf D s 3 b) fun l => .ret (x, (l : List Int))
  | _ => .fail
def allR (l : List Int) : Prop := ∀ n ∈ l, inR .i64 n = true
def sayC : Con D := con0 29 (By × List Int) inSL (fun y => y.1.length ≤ 100000000000 ∧ y.2.length ≤ 100 ∧ allR y.2) (fun y => [.str y.1, .list 3 y.2]) fun y => .str (sayF y.1 y.2 ++ [10])
def sayO (y : sayC.Y) : Orc D := ⟨[], [], [(26, { X := Nat, keep := [1, 7, 8], sl := fun i => [(0, .str (sayF y.1 (y.2.take i))), (9, .int .i64 i)], kp := [], pc := fun _ => [], nx := 0, inv := fun i => i ≤ y.2.length, me := fun i => y.2.length - i })], [], 1, []⟩
def sayV (y : sayC.Y) : Prop := vc [itoC] Tryz.f29 sayC sayO y
def saiC : Con D := con0 30 (By × List Int) inSL (fun y => y.1.length ≤ 100000000000 ∧ y.2.length ≤ 100 ∧ allR y.2) (fun y => [.str y.1, .list 3 y.2]) fun y => .str (sayF y.1 y.2)
def saiO (y : saiC.Y) : Orc D := ⟨[], [], [(26, { X := Nat, keep := [1], sl := fun i => [(0, .str (sayF y.1 (y.2.take i))), (5, .int .i64 i)], kp := [], pc := fun _ => [], nx := 0, inv := fun i => i ≤ y.2.length, me := fun i => y.2.length - i })], [], 1, []⟩
def saiV (y : saiC.Y) : Prop := vc [itoC] Tryz.f30 saiC saiO y
structure Out where
  why : Int
  pos : Int
  told : List Told
  recs : List Rec
def inOut (args : List (AV D.E)) (s : St D.E) : C Out := match args with
  | [x] => bnd (asAgg x) fun l => match l with
    | [k, n, a, b] => bnd2 (asI k) fun _ k => bnd2 (asI n) fun _ n => bnd (rowsOf D s 4 a) fun a => bnd (rowsOf D s 5 b) fun b => .ret ⟨k, n, (a : List Told), (b : List Rec)⟩
    | _ => .fail
  | _ => .fail
def outL (o : Out) : List (AV D.E) := [.int .i64 o.why, .int .i64 o.pos, .list 4 o.told, .list 5 o.recs]
def outF (o : Out) : By := showF o.why o.pos o.told o.recs
def errF (o : Out) : By := if o.why = 0 then [] else sayF [101, 114, 114, 111, 114] [o.why, o.pos] ++ [10]
def okRd (r : Rec) : Prop := inR .i64 r.ino = true ∧ inR .i64 r.gen = true ∧ inR .i64 r.pos = true ∧ inR .i64 r.c0 = true ∧ inR .i64 r.c1 = true ∧ r.rule.length ≤ 2000000
def okTold (t : Told) : Prop := inR .i64 t.1 = true ∧ inR .i64 t.2 = true
def okOt (o : Out) : Prop := inR .i64 o.why = true ∧ inR .i64 o.pos = true ∧ o.told.length ≤ 2000000 ∧ o.recs.length ≤ 2000000 ∧ (∀ t ∈ o.told, okTold t) ∧ ∀ r ∈ o.recs, okRd r
def toldP (o : Out) (i : Nat) : By := errF o ++ (o.told.take i).flatMap toldF
def recP (o : Out) (i : Nat) : By := errF o ++ (o.told.flatMap toldF ++ (o.recs.take i).flatMap recF)
def shwC : Con D := con0 16 Out inOut okOt (fun y => [.agg (outL y)]) fun y => .str (outF y)
def shwO (y : shwC.Y) : Orc D := ⟨[], [], [(122, { X := Nat, keep := [1, 20, 21], sl := fun i => [(3, .str (toldP y i)), (22, .int .i64 i)], kp := [0], pc := fun _ => [], nx := 1, inv := fun i => i ≤ y.told.length, me := fun i => y.told.length - i }),
  (250, { X := Nat, keep := [36, 37], sl := fun i => [(3, .str (recP y i)), (38, .int .i64 i)], kp := [], pc := fun _ => [], nx := 0, inv := fun i => i ≤ y.recs.length, me := fun i => y.recs.length - i })],
  [(7, { X := Unit, keep := [1], sl := fun _ => [(3, .str (errF y))], kp := [0], pc := fun _ => [], nx := 1, inv := fun _ => True, me := fun _ => 0 })], 1, []⟩
def shwV (y : shwC.Y) : Prop := vc [sayC, itoC] Tryz.f16 shwC shwO y
def rswC : Con D := { shwC with f := 17 }
def rswO (y : rswC.Y) : Orc D := ⟨[], [], [(122, { X := Nat, keep := [1], sl := fun i => [(3, .str (toldP y i)), (4, .int .i64 i)], kp := [0], pc := fun _ => [], nx := 1, inv := fun i => i ≤ y.told.length, me := fun i => y.told.length - i }),
  (250, { X := Nat, keep := [1], sl := fun i => [(3, .str (recP y i)), (5, .int .i64 i)], kp := [0], pc := fun _ => [], nx := 1, inv := fun i => i ≤ y.recs.length, me := fun i => y.recs.length - i })],
  [(7, { X := Unit, keep := [1], sl := fun _ => [(3, .str (errF y))], kp := [0], pc := fun _ => [], nx := 1, inv := fun _ => True, me := fun _ => 0 })], 1, []⟩
def rswV (y : rswC.Y) : Prop := vc [saiC] Tryz.f17 rswC rswO y
end
end Go.Proofs.YtjdehneddakpnaaGreatDoor.sx
namespace Go.Proofs.YtjdehneddakpnaaGreatDoor.sx
open Go Go.RowKit
def sayVC (y : Prod (List UInt8) (List Int)) : Prop :=
 let q0 := List.length y.2;
 (
  ∃ z : Nat,
  Rfs [y.2, y.2] (
  Rfs [llen y.2] (
  (y.1 = (sayF y.1 (List.take z y.2))) ∧
  ((0 : Int) = ((z : Nat) : Int)) ∧
  (Iv ((z : Nat) ≤ q0))))) ∧
 (
  ∀ x : Nat,
 let q1 := ilt ((x : Nat) : Int) (llen y.2);
 let q2 := sayF y.1 (List.take x y.2);
 let q3 := gt (0 : Int) y.2 (Int.toNat ((x : Nat) : Int));
 let q4 := scat q2 ((10 : UInt8) :: ([] : List UInt8));
 let q5 := scat ((32 : UInt8) :: ([] : List UInt8)) (Lib.itoa q3);
 let q6 := scat q2 q5;
  (Iv ((x : Nat) ≤ q0)) →
  Bth q1 (
  ((ile (0 : Int) ((x : Nat) : Int)) = true) ∧
  (q1 = true) ∧
  (Iv ((inR .i64 q3) = true)) ∧
  Rfs [q3] (
  ((ile (slen q5) BIG) = true) ∧
  ((ile (slen q6) BIG) = true) ∧
  ∃ z : Nat,
  Rfs [y.2, y.2] (
  Rfs [llen y.2] (
  (q6 = (sayF y.1 (List.take z y.2))) ∧
  ((iadd .i64 ((x : Nat) : Int) (1 : Int)) = ((z : Nat) : Int)) ∧
  (Iv (((z : Nat) ≤ q0) ∧ ((q0 : Nat) - z : Nat) < ((q0 : Nat) - x))))))) (
  ((ile (slen q4) BIG) = true) ∧
  (q4 = ((sayF y.1 y.2 : By) ++ ((10 : UInt8) :: ([] : List UInt8)))) ∧
  True))
theorem sayV_eq : ∀ y, sayVC y = sayV y := fun y => by kernel_rfl
def saiVC (y : Prod (List UInt8) (List Int)) : Prop :=
 let q0 := List.length y.2;
 (
  ∃ z : Nat,
  Rfs [y.2] (
  (y.1 = (sayF y.1 (List.take z y.2))) ∧
  ((0 : Int) = ((z : Nat) : Int)) ∧
  (Iv ((z : Nat) ≤ q0)))) ∧
 (
  ∀ x : Nat,
 let q1 := ilt ((x : Nat) : Int) (llen y.2);
 let q2 := sayF y.1 (List.take x y.2);
 let q3 := gt (0 : Int) y.2 (Int.toNat ((x : Nat) : Int));
 let q4 := scat q2 ((32 : UInt8) :: ([] : List UInt8));
 let q5 := scat q4 (Lib.itoa q3);
  (Iv ((x : Nat) ≤ q0)) →
  Bth q1 (
  ((ile (slen q4) BIG) = true) ∧
  ((ile (0 : Int) ((x : Nat) : Int)) = true) ∧
  (q1 = true) ∧
  (Iv ((inR .i64 q3) = true)) ∧
  Rfs [q3] (
  ((ile (slen q5) BIG) = true) ∧
  ∃ z : Nat,
  Rfs [y.2] (
  (q5 = (sayF y.1 (List.take z y.2))) ∧
  ((iadd .i64 ((x : Nat) : Int) (1 : Int)) = ((z : Nat) : Int)) ∧
  (Iv (((z : Nat) ≤ q0) ∧ ((q0 : Nat) - z : Nat) < ((q0 : Nat) - x)))))) (
  (q2 = (sayF y.1 y.2)) ∧
  True))
theorem saiV_eq : ∀ y, saiVC y = saiV y := fun y => by kernel_rfl
def shwVC (y : Out) : Prop :=
 let q0 := llen (Out.recs y);
 let q1 := List.length (Out.recs y);
 let q2 := llen (Out.told y);
 let q3 := List.length (Out.told y);
 let q4 := Bool.not (ieq (Out.why y) (0 : Int));
 let q5 := ((Out.why y) :: ((Out.pos y) :: ([] : List Int)));
 let q6 : Prop := (
 Rfs [Out.why y, Out.pos y] (
  Rfs [Out.told y] (
  Rfs [Out.recs y] (
  (Iv True)))));
 let q7 := scat ([] : List UInt8) ((sayF ((101 : UInt8) :: ((114 : UInt8) :: ((114 : UInt8) :: ((111 : UInt8) :: ((114 : UInt8) :: ([] : List UInt8)))))) q5 : By) ++ ((10 : UInt8) :: ([] : List UInt8)));
 (
  Bth q4 (
  (Iv (((List.length ((101 : UInt8) :: ((114 : UInt8) :: ((114 : UInt8) :: ((111 : UInt8) :: ((114 : UInt8) :: ([] : List UInt8)))))) : Nat) ≤ 100000000000) ∧ ((List.length q5 : Nat) ≤ 100) ∧ allR q5)) ∧
  Rfs [((101 : UInt8) :: ((114 : UInt8) :: ((114 : UInt8) :: ((111 : UInt8) :: ((114 : UInt8) :: ([] : List UInt8))))))] (
  Rfs [q5] (
  ((ile (slen q7) BIG) = true) ∧
  ∃ z : Unit,
  (q7 = (errF y)) ∧
  q6))) (
  ∃ z : Unit,
  (([] : List UInt8) = (errF y)) ∧
  q6)) ∧
 (
  ∀ x : Unit,
  (Iv True) →
  (
  ∃ z : Nat,
  Rfs [Out.told y] (
  Rfs [q2] (
  ((errF y) = (toldP y z)) ∧
  ((0 : Int) = ((z : Nat) : Int)) ∧
  Rfs [Out.why y, Out.pos y] (
  Rfs [Out.told y] (
  Rfs [Out.recs y] (
  (Iv ((z : Nat) ≤ q3)))))))) ∧
  (
  ∀ x1 : Nat,
 let q8 := toldP y x1;
 let q9 := ilt ((x1 : Nat) : Int) q2;
 let q10 := gt ((0 : Int), (0 : Int)) (Out.told y) (Int.toNat ((x1 : Nat) : Int));
 let q11 := (q10.1 :: (q10.2 :: ([] : List Int)));
 let q12 := scat q8 ((sayF ((116 : UInt8) :: ((111 : UInt8) :: ((108 : UInt8) :: ((100 : UInt8) :: ([] : List UInt8))))) q11 : By) ++ ((10 : UInt8) :: ([] : List UInt8)));
  (Iv ((x1 : Nat) ≤ q3)) →
  Bth q9 (
  ((ile (0 : Int) ((x1 : Nat) : Int)) = true) ∧
  (q9 = true) ∧
  (Iv (((List.length ((116 : UInt8) :: ((111 : UInt8) :: ((108 : UInt8) :: ((100 : UInt8) :: ([] : List UInt8))))) : Nat) ≤ 100000000000) ∧ ((List.length q11 : Nat) ≤ 100) ∧ allR q11)) ∧
  Rfs [((116 : UInt8) :: ((111 : UInt8) :: ((108 : UInt8) :: ((100 : UInt8) :: ([] : List UInt8)))))] (
  Rfs [q11] (
  ((ile (slen q12) BIG) = true) ∧
  ∃ z : Nat,
  Rfs [Out.told y] (
  Rfs [q2] (
  (q12 = (toldP y z)) ∧
  ((iadd .i64 ((x1 : Nat) : Int) (1 : Int)) = ((z : Nat) : Int)) ∧
  Rfs [Out.why y, Out.pos y] (
  Rfs [Out.told y] (
  Rfs [Out.recs y] (
  (Iv (((z : Nat) ≤ q3) ∧ ((q3 : Nat) - z : Nat) < ((q3 : Nat) - x1))))))))))) (
  (
  ∃ z : Nat,
  Rfs [Out.recs y] (
  Rfs [q0] (
  (q8 = (recP y z)) ∧
  ((0 : Int) = ((z : Nat) : Int)) ∧
  (Iv ((z : Nat) ≤ q1))))) ∧
  (
  ∀ x2 : Nat,
 let q13 := recP y x2;
 let q14 := ilt ((x2 : Nat) : Int) q0;
 let q15 := gt (Rec.mk (0 : Int) (0 : Int) (0 : Int) ([] : List UInt8) (0 : Int) (0 : Int) (0 : Int) (0 : Int) (0 : Int) (0 : Int) (0 : Int) (0 : Int) (0 : Int) (0 : Int) (0 : Int)) (Out.recs y) (Int.toNat ((x2 : Nat) : Int));
 let q16 := ieq (Rec.kind q15) (1 : Int);
 let q17 := scat ((109 : UInt8) :: ((97 : UInt8) :: ((116 : UInt8) :: ((99 : UInt8) :: ((104 : UInt8) :: ((32 : UInt8) :: ([] : List UInt8))))))) (Lib.itoa (Rec.ino q15));
 let q18 := scat q17 ((32 : UInt8) :: ([] : List UInt8));
 let q19 := ((Rec.c0 q15) :: ((Rec.c1 q15) :: ([] : List Int)));
 let q20 := scat q18 (Lib.itoa (Rec.gen q15));
 let q21 := scat q20 ((32 : UInt8) :: ([] : List UInt8));
 let q22 := ((Rec.ino q15) :: ((Rec.gen q15) :: ((Rec.pos q15) :: ([] : List Int))));
 let q23 := scat q13 ((sayF ((108 : UInt8) :: ((111 : UInt8) :: ((110 : UInt8) :: ((103 : UInt8) :: ([] : List UInt8))))) q22 : By) ++ ((10 : UInt8) :: ([] : List UInt8)));
 let q24 := scat q21 (Lib.itoa (Rec.pos q15));
 let q25 := scat q24 ((32 : UInt8) :: ([] : List UInt8));
 let q26 := scat q25 ((sayF (Rec.rule q15) q19 : By) ++ ((10 : UInt8) :: ([] : List UInt8)));
 let q27 := scat q13 q26;
  (Iv ((x2 : Nat) ≤ q1)) →
  Bth q14 (
  ((ile (0 : Int) ((x2 : Nat) : Int)) = true) ∧
  (q14 = true) ∧
  Bth q16 (
  (Iv ((inR .i64 (Rec.ino q15)) = true)) ∧
  Rfs [Rec.ino q15] (
  ((ile (slen q17) BIG) = true) ∧
  ((ile (slen q18) BIG) = true) ∧
  (Iv ((inR .i64 (Rec.gen q15)) = true)) ∧
  Rfs [Rec.gen q15] (
  ((ile (slen q20) BIG) = true) ∧
  ((ile (slen q21) BIG) = true) ∧
  (Iv ((inR .i64 (Rec.pos q15)) = true)) ∧
  Rfs [Rec.pos q15] (
  ((ile (slen q24) BIG) = true) ∧
  ((ile (slen q25) BIG) = true) ∧
  (Iv (((List.length (Rec.rule q15) : Nat) ≤ 100000000000) ∧ ((List.length q19 : Nat) ≤ 100) ∧ allR q19)) ∧
  Rfs [Rec.rule q15] (
  Rfs [q19] (
  ((ile (slen q26) BIG) = true) ∧
  ((ile (slen q27) BIG) = true) ∧
  Rfs [Rec.ino q15, Rec.gen q15, Rec.gen q15, Rec.pos q15, Rec.pos q15, Rec.pos q15] (
  Rfs [Rec.rule q15, Rec.rule q15, Rec.rule q15, Rec.rule q15] (
  Rfs [Rec.c0 q15, Rec.c0 q15, Rec.c0 q15, Rec.c0 q15, Rec.c1 q15, Rec.c1 q15, Rec.c1 q15, Rec.c1 q15] (
  ∃ z : Nat,
  Rfs [Out.recs y] (
  Rfs [q0] (
  (q27 = (recP y z)) ∧
  ((iadd .i64 ((x2 : Nat) : Int) (1 : Int)) = ((z : Nat) : Int)) ∧
  (Iv (((z : Nat) ≤ q1) ∧ ((q1 : Nat) - z : Nat) < ((q1 : Nat) - x2)))))))))))))) (
  (Iv (((List.length ((108 : UInt8) :: ((111 : UInt8) :: ((110 : UInt8) :: ((103 : UInt8) :: ([] : List UInt8))))) : Nat) ≤ 100000000000) ∧ ((List.length q22 : Nat) ≤ 100) ∧ allR q22)) ∧
  Rfs [((108 : UInt8) :: ((111 : UInt8) :: ((110 : UInt8) :: ((103 : UInt8) :: ([] : List UInt8)))))] (
  Rfs [q22] (
  ((ile (slen q23) BIG) = true) ∧
  ∃ z : Nat,
  Rfs [Out.recs y] (
  Rfs [q0] (
  (q23 = (recP y z)) ∧
  ((iadd .i64 ((x2 : Nat) : Int) (1 : Int)) = ((z : Nat) : Int)) ∧
  (Iv (((z : Nat) ≤ q1) ∧ ((q1 : Nat) - z : Nat) < ((q1 : Nat) - x2))))))))) (
  (q13 = (outF y)) ∧
  True)))))
theorem shwV_eq : ∀ y, shwVC y = shwV y := fun y => by kernel_rfl
def rswVC (y : Out) : Prop :=
 let q0 := llen (Out.recs y);
 let q1 := List.length (Out.recs y);
 let q2 := llen (Out.told y);
 let q3 := List.length (Out.told y);
 let q4 := Bool.not (ieq (Out.why y) (0 : Int));
 let q5 := ((Out.why y) :: ((Out.pos y) :: ([] : List Int)));
 let q6 : Prop := (
 Rfs [Out.why y, Out.pos y] (
  Rfs [Out.told y] (
  Rfs [Out.recs y] (
  (Iv True)))));
 let q7 := scat (sayF ((101 : UInt8) :: ((114 : UInt8) :: ((114 : UInt8) :: ((111 : UInt8) :: ((114 : UInt8) :: ([] : List UInt8)))))) q5) ((10 : UInt8) :: ([] : List UInt8));
 (
  Bth q4 (
  (Iv (((List.length ((101 : UInt8) :: ((114 : UInt8) :: ((114 : UInt8) :: ((111 : UInt8) :: ((114 : UInt8) :: ([] : List UInt8)))))) : Nat) ≤ 100000000000) ∧ ((List.length q5 : Nat) ≤ 100) ∧ allR q5)) ∧
  Rfs [((101 : UInt8) :: ((114 : UInt8) :: ((114 : UInt8) :: ((111 : UInt8) :: ((114 : UInt8) :: ([] : List UInt8))))))] (
  Rfs [q5] (
  ((ile (slen q7) BIG) = true) ∧
  ∃ z : Unit,
  (q7 = (errF y)) ∧
  q6))) (
  ∃ z : Unit,
  (([] : List UInt8) = (errF y)) ∧
  q6)) ∧
 (
  ∀ x : Unit,
  (Iv True) →
  (
  ∃ z : Nat,
  ((errF y) = (toldP y z)) ∧
  ((0 : Int) = ((z : Nat) : Int)) ∧
  Rfs [Out.why y, Out.pos y] (
  Rfs [Out.told y] (
  Rfs [Out.recs y] (
  (Iv ((z : Nat) ≤ q3)))))) ∧
  (
  ∀ x1 : Nat,
 let q8 := toldP y x1;
 let q9 := ilt ((x1 : Nat) : Int) q2;
 let q10 := gt ((0 : Int), (0 : Int)) (Out.told y) (Int.toNat ((x1 : Nat) : Int));
 let q11 := (q10.1 :: (q10.2 :: ([] : List Int)));
 let q12 := scat q8 (sayF ((116 : UInt8) :: ((111 : UInt8) :: ((108 : UInt8) :: ((100 : UInt8) :: ([] : List UInt8))))) q11);
 let q13 := scat q12 ((10 : UInt8) :: ([] : List UInt8));
  (Iv ((x1 : Nat) ≤ q3)) →
  Bth q9 (
  ((ile (0 : Int) ((x1 : Nat) : Int)) = true) ∧
  (q9 = true) ∧
  ((ile (0 : Int) ((x1 : Nat) : Int)) = true) ∧
  (q9 = true) ∧
  (Iv (((List.length ((116 : UInt8) :: ((111 : UInt8) :: ((108 : UInt8) :: ((100 : UInt8) :: ([] : List UInt8))))) : Nat) ≤ 100000000000) ∧ ((List.length q11 : Nat) ≤ 100) ∧ allR q11)) ∧
  Rfs [((116 : UInt8) :: ((111 : UInt8) :: ((108 : UInt8) :: ((100 : UInt8) :: ([] : List UInt8)))))] (
  Rfs [q11] (
  ((ile (slen q12) BIG) = true) ∧
  ((ile (slen q13) BIG) = true) ∧
  Rfs [Out.told y] (
  Rfs [q10.1] (
  Rfs [Out.told y] (
  Rfs [q10.2] (
  ∃ z : Nat,
  (q13 = (toldP y z)) ∧
  ((iadd .i64 ((x1 : Nat) : Int) (1 : Int)) = ((z : Nat) : Int)) ∧
  Rfs [Out.why y, Out.pos y] (
  Rfs [Out.told y] (
  Rfs [Out.recs y] (
  (Iv (((z : Nat) ≤ q3) ∧ ((q3 : Nat) - z : Nat) < ((q3 : Nat) - x1))))))))))))) (
  (
  ∃ z : Nat,
  (q8 = (recP y z)) ∧
  ((0 : Int) = ((z : Nat) : Int)) ∧
  Rfs [Out.why y, Out.pos y] (
  Rfs [Out.told y] (
  Rfs [Out.recs y] (
  (Iv ((z : Nat) ≤ q1)))))) ∧
  (
  ∀ x2 : Nat,
 let q14 := recP y x2;
 let q15 := ilt ((x2 : Nat) : Int) q0;
 let q16 := gt (Rec.mk (0 : Int) (0 : Int) (0 : Int) ([] : List UInt8) (0 : Int) (0 : Int) (0 : Int) (0 : Int) (0 : Int) (0 : Int) (0 : Int) (0 : Int) (0 : Int) (0 : Int) (0 : Int)) (Out.recs y) (Int.toNat ((x2 : Nat) : Int));
 let q17 := ieq (Rec.kind q16) (1 : Int);
 let q18 := ((Rec.c0 q16) :: ((Rec.c1 q16) :: ([] : List Int)));
 let q19 := ((Rec.ino q16) :: ((Rec.gen q16) :: ((Rec.pos q16) :: ([] : List Int))));
 let q20 := scat q14 (sayF ((108 : UInt8) :: ((111 : UInt8) :: ((110 : UInt8) :: ((103 : UInt8) :: ([] : List UInt8))))) q19);
 let q21 := scat q20 ((10 : UInt8) :: ([] : List UInt8));
 let q22 := scat (sayF ((109 : UInt8) :: ((97 : UInt8) :: ((116 : UInt8) :: ((99 : UInt8) :: ((104 : UInt8) :: ([] : List UInt8)))))) q19) ((32 : UInt8) :: ([] : List UInt8));
 let q23 := scat q22 (Rec.rule q16);
 let q24 : Prop := (
 ((List.length q19 : Nat) ≤ 100) ∧
 (allR q19));
 let q25 := scat q14 (sayF q23 q18);
 let q26 := scat q25 ((10 : UInt8) :: ([] : List UInt8));
  (Iv ((x2 : Nat) ≤ q1)) →
  Bth q15 (
  ((ile (0 : Int) ((x2 : Nat) : Int)) = true) ∧
  (q15 = true) ∧
  Bth q17 (
  (Iv (((List.length ((109 : UInt8) :: ((97 : UInt8) :: ((116 : UInt8) :: ((99 : UInt8) :: ((104 : UInt8) :: ([] : List UInt8)))))) : Nat) ≤ 100000000000) ∧ q24)) ∧
  Rfs [((109 : UInt8) :: ((97 : UInt8) :: ((116 : UInt8) :: ((99 : UInt8) :: ((104 : UInt8) :: ([] : List UInt8))))))] (
  Rfs [q19] (
  ((ile (slen q22) BIG) = true) ∧
  ((ile (slen q23) BIG) = true) ∧
  (Iv (((List.length q23 : Nat) ≤ 100000000000) ∧ ((List.length q18 : Nat) ≤ 100) ∧ allR q18)) ∧
  Rfs [q23] (
  Rfs [q18] (
  ((ile (slen q25) BIG) = true) ∧
  ((ile (slen q26) BIG) = true) ∧
  Rfs [Rec.ino q16, Rec.gen q16, Rec.pos q16] (
  Rfs [Rec.rule q16, Rec.rule q16] (
  Rfs [Rec.c0 q16, Rec.c0 q16, Rec.c1 q16, Rec.c1 q16] (
  ∃ z : Nat,
  (q26 = (recP y z)) ∧
  ((iadd .i64 ((x2 : Nat) : Int) (1 : Int)) = ((z : Nat) : Int)) ∧
  Rfs [Out.why y, Out.pos y] (
  Rfs [Out.told y] (
  Rfs [Out.recs y] (
  (Iv (((z : Nat) ≤ q1) ∧ ((q1 : Nat) - z : Nat) < ((q1 : Nat) - x2)))))))))))))) (
  (Iv (((List.length ((108 : UInt8) :: ((111 : UInt8) :: ((110 : UInt8) :: ((103 : UInt8) :: ([] : List UInt8))))) : Nat) ≤ 100000000000) ∧ q24)) ∧
  Rfs [((108 : UInt8) :: ((111 : UInt8) :: ((110 : UInt8) :: ((103 : UInt8) :: ([] : List UInt8)))))] (
  Rfs [q19] (
  ((ile (slen q20) BIG) = true) ∧
  ((ile (slen q21) BIG) = true) ∧
  ∃ z : Nat,
  (q21 = (recP y z)) ∧
  ((iadd .i64 ((x2 : Nat) : Int) (1 : Int)) = ((z : Nat) : Int)) ∧
  Rfs [Out.why y, Out.pos y] (
  Rfs [Out.told y] (
  Rfs [Out.recs y] (
  (Iv (((z : Nat) ≤ q1) ∧ ((q1 : Nat) - z : Nat) < ((q1 : Nat) - x2)))))))))) (
  (q14 = (outF y)) ∧
  True)))))
theorem rswV_eq : ∀ y, rswVC y = rswV y := fun y => by kernel_rfl
end Go.Proofs.YtjdehneddakpnaaGreatDoor.sx
namespace Go.Proofs.YtjdehneddakpnaaGreatDoor.sx
open Go Go.RowKit
noncomputable section
def runsC : Con D := con0 11 Unit (fun _ _ => .ret ()) (fun _ => True) (fun _ => []) fun _ => .lit true
def inSh (args : List (AV D.E)) (s : St D.E) : C Out := match args with
  | [k, n, a, b] => bnd2 (asI k) fun _ k => bnd2 (asI n) fun _ n => bnd (rowsOf D s 4 a) fun a => bnd (rowsOf D s 5 b) fun b => .ret ⟨k, n, (a : List Told), (b : List Rec)⟩
  | _ => .fail
def lawSC : Con D := con0 5 Out inSh okOt (fun y => [.int .i64 y.why, .int .i64 y.pos, .list 4 y.told, .list 5 y.recs]) fun _ => .bool true
def lawSO (y : lawSC.Y) : Orc D := ⟨[], [], [(122, { X := Nat, keep := [2, 9], sl := fun i => [(10, .ptr 1 0), (11, .int .i64 i)], kp := [0], pc := fun i => [(1, .cells [.int .i64 y.why, .int .i64 y.pos, .grow 4 (y.told.take i) 2, .list 5 y.recs] 46 false), (2, .tok 4 49)], nx := 3, inv := fun i => i ≤ y.told.length, me := fun i => y.told.length - i })], [], 1, []⟩
def lawSV (y : lawSC.Y) : Prop := vc [shwC, rswC, runsC] Tryz.f5 lawSC lawSO y
end
end Go.Proofs.YtjdehneddakpnaaGreatDoor.sx
namespace Go.Proofs.YtjdehneddakpnaaGreatDoor.sx
open Go Go.RowKit
def lawSVC (y : Out) : Prop :=
 let q0 := List.length (Out.told y);
 let q1 := llen (Out.told y);
 (
  ∃ z : Nat,
  Rfs [Out.told y] (
  ((0 : Int) = ((z : Nat) : Int)) ∧
  Rfs [Out.why y, Out.pos y] (
  (([] : List (Prod Int Int)) = (List.take z (Out.told y))) ∧
  Rfs [Out.recs y] (
  Rfs [Out.why y, Out.pos y] (
  Rfs [Out.told y] (
  Rfs [Out.recs y] (
  (Iv ((z : Nat) ≤ q0))))))))) ∧
 (
  ∀ x : Nat,
 let q2 := List.take x (Out.told y);
 let q3 := ilt ((x : Nat) : Int) q1;
 let q4 := Out.mk (Out.why y) (Out.pos y) q2 (Out.recs y);
 let q5 := seq (outF y) (outF q4);
 let q6 := gt ((0 : Int), (0 : Int)) (Out.told y) (Int.toNat ((x : Nat) : Int));
 let q7 := lcat q2 ((q6.1, q6.2) :: ([] : List (Prod Int Int)));
  (Iv ((x : Nat) ≤ q0)) →
  Bth q3 (
  ((ile (0 : Int) ((x : Nat) : Int)) = true) ∧
  (q3 = true) ∧
  ((ile (0 : Int) ((x : Nat) : Int)) = true) ∧
  (q3 = true) ∧
  ((fits (llen q7) 16) = true) ∧
  Rfs [q2] (
  Rfs [q6.1, q6.2] (
  ∃ z : Nat,
  Rfs [Out.told y] (
  ((iadd .i64 ((x : Nat) : Int) (1 : Int)) = ((z : Nat) : Int)) ∧
  Rfs [Out.why y, Out.pos y] (
  (q7 = (List.take z (Out.told y))) ∧
  Rfs [Out.recs y] (
  Rfs [Out.why y, Out.pos y] (
  Rfs [Out.told y] (
  Rfs [Out.recs y] (
  (Iv (((z : Nat) ≤ q0) ∧ ((q0 : Nat) - z : Nat) < ((q0 : Nat) - x)))))))))))) (
  (Iv (okOt y)) ∧
  Rfs [Out.why y, Out.pos y] (
  Rfs [Out.told y] (
  Rfs [Out.recs y] (
  (Iv (okOt q4)) ∧
  Rfs [Out.why y, Out.pos y] (
  Rfs [q2] (
  Rfs [Out.recs y] (
  Bth q5 (
  (Iv True) ∧
  Rfs [Out.why y, Out.pos y] (
  Rfs [Out.told y] (
  Rfs [Out.recs y] (
  Rfs [Out.why y, Out.pos y] (
  Rfs [q2] (
  Rfs [Out.recs y] (
  Rfs [Out.why y, Out.pos y] (
  Rfs [q2] (
  Rfs [Out.recs y] (
  Tt 1 (
  True))))))))))) (
  Rfs [Out.why y, Out.pos y] (
  Rfs [Out.told y] (
  Rfs [Out.recs y] (
  Rfs [Out.why y, Out.pos y] (
  Rfs [q2] (
  Rfs [Out.recs y] (
  Rfs [Out.why y, Out.pos y] (
  Rfs [q2] (
  Rfs [Out.recs y] (
  (false = true) ∧
  True))))))))))))))))))
theorem lawSV_eq : ∀ y, lawSVC y = lawSV y := fun y => by kernel_rfl
end Go.Proofs.YtjdehneddakpnaaGreatDoor.sx
namespace Go.Proofs.YtjdehneddakpnaaGreatDoor.sx
open Go Go.RowKit
set_option maxRecDepth 100000
/-- a word that is read: what stands behind place i, with what was read -/
def QR (s : By) (b i : Nat) (out : By) : Prop := qG (s.drop b) = (qG (s.drop i)).map fun r => (out ++ r.1, r.2 + (i - b))
theorem QR.none {s : By} {b i : Nat} {out : By} (h : QR s b i out) (e : qG (s.drop i) = none) : qG (s.drop b) = none := by rw [h, e]; rfl
theorem QR.done {s : By} {b i : Nat} {out t : By} (h : QR s b i out) (e : s.drop i = 34 :: t) : qG (s.drop b) = some (out, 1 + (i - b)) := by
  rw [h, e, qG_cons, if_pos rfl]
  simp
theorem QR.plain {s : By} {b i : Nat} {out : By} {c : UInt8} (h : QR s b i out) (hb : b ≤ i) (e : s.drop i = c :: s.drop (i + 1)) (h1 : c ≠ 34) (h2 : c ≠ 92) (h3 : ¬ (c.toNat < 32 ∨ 126 < c.toNat)) : QR s b (i + 1) (out ++ [c]) := by
  unfold QR
  rw [h, e, qG_cons, if_neg h1, if_neg h2, if_neg h3, Option.map_map]
  congr 1
  funext r
  simp only [Function.comp, List.append_assoc, List.singleton_append, Prod.mk.injEq]
  exact ⟨trivial, by omega⟩
end Go.Proofs.YtjdehneddakpnaaGreatDoor.sx
namespace Go.Proofs.YtjdehneddakpnaaGreatDoor.sx
open Go Go.RowKit
set_option maxRecDepth 100000
end Go.Proofs.YtjdehneddakpnaaGreatDoor.sx
namespace Go.Proofs.YtjdehneddakpnaaGreatDoor.sx
open Go Go.RowKit
set_option maxRecDepth 100000
theorem BIG_eq : BIG = 9223372036854775807 := rfl
theorem scat_eq (a b : By) : scat a b = a ++ b := rfl
theorem take_succD {α : Type} (d : α) {l : List α} {i : Nat} (h : i < l.length) : l.take (i + 1) = l.take i ++ [l.getD i d] := by
  rw [List.take_succ_eq_append_getElem h]
  simp [h]
theorem itoa_le {n : Int} (h : inR .i64 n = true) : (Lib.itoa n).length ≤ 21 := by
  have := inR64.1 h
  exact Lib.itoa_length_le n this.1 this.2
end Go.Proofs.YtjdehneddakpnaaGreatDoor.sx
namespace Go.Proofs.YtjdehneddakpnaaGreatDoor.sx
open Go Go.RowKit
set_option maxRecDepth 100000
theorem sayF_len {s : By} {l : List Int} (h : allR l) : (sayF s l).length ≤ s.length + 22 * l.length := by
  have key : ∀ l : List Int, allR l → (l.flatMap fun n => 32 :: Lib.itoa n).length ≤ 22 * l.length := fun l => by
    induction l with
    | nil => intro _; exact Nat.le_refl 0
    | cons n l ih =>
      intro h
      have h1 := itoa_le (h n List.mem_cons_self)
      have h2 := ih fun m hm => h m (List.mem_cons_of_mem _ hm)
      rw [List.flatMap_cons, List.length_append, List.length_cons, List.length_cons]; omega
  have := key l h
  unfold sayF
  rw [List.length_append]; omega
theorem sayF_next {s : By} {l : List Int} {x : Nat} (h : x < l.length) : sayF s (l.take (x + 1)) = sayF s (l.take x) ++ 32 :: Lib.itoa (l.getD x 0) := by
  unfold sayF
  rw [take_succD 0 h]; simp
theorem allR_take {l : List Int} {x : Nat} (h : allR l) : allR (l.take x) := fun n hn => h n (List.mem_of_mem_take hn)
theorem allR_get {l : List Int} {x : Nat} (h : allR l) (hx : x < l.length) : inR .i64 (l.getD x 0) = true := by
  have : l.getD x 0 = l[x] := by simp [hx]
  rw [this]; exact h _ (List.getElem_mem hx)
theorem sayH (y : By × List Int) (hy : sayC.pre y) : sayVC y := by
  obtain ⟨y1, y2, y3⟩ : y.1.length ≤ 100000000000 ∧ y.2.length ≤ 100 ∧ allR y.2 := hy
  unfold sayVC
  simp only [Rfs_eq, Bth_eq, and_true, ile_t, ile_f, ilt_t, ilt_f, slen_eq, llen_eq, scat_eq, BIG_eq, gt_nat]
  refine ⟨⟨0, by simp [sayF], rfl, ⟨by omega⟩⟩, fun x hx => ?_⟩
  have hx := hx.out
  have h0 := sayF_len (s := y.1) (allR_take (x := x) y3)
  have hl : (y.2.take x).length ≤ 100 := by rw [List.length_take]; omega
  refine ⟨fun h => ⟨by omega, h, ?_⟩, fun h => ?_⟩
  · have hlt : x < y.2.length := by omega
    have hr := allR_get y3 hlt
    have hi := itoa_le hr
    have hn := sayF_next (s := y.1) hlt
    generalize y.2.getD x 0 = m at *
    generalize sayF y.1 (y.2.take x) = u at *
    refine ⟨⟨hr⟩, by simp; omega, by simp; omega, x + 1, by rw [hn]; simp, iadd64 (by omega) (by omega), ⟨by omega, by omega⟩⟩
  · rw [List.take_of_length_le (by omega)] at h0 ⊢
    generalize sayF y.1 y.2 = u at *
    exact ⟨by simp; omega, rfl⟩
theorem sayOk (hi : Ok itoC) : Ok sayC := okW sayV_eq hi sayH
theorem saiH (y : By × List Int) (hy : saiC.pre y) : saiVC y := by
  obtain ⟨y1, y2, y3⟩ : y.1.length ≤ 100000000000 ∧ y.2.length ≤ 100 ∧ allR y.2 := hy
  unfold saiVC
  simp only [Rfs_eq, Bth_eq, and_true, ile_t, ile_f, ilt_t, ilt_f, slen_eq, llen_eq, scat_eq, BIG_eq, gt_nat]
  refine ⟨⟨0, by simp [sayF], rfl, ⟨by omega⟩⟩, fun x hx => ?_⟩
  have hx := hx.out
  have h0 := sayF_len (s := y.1) (allR_take (x := x) y3)
  have hl : (y.2.take x).length ≤ 100 := by rw [List.length_take]; omega
  refine ⟨fun h => ?_, fun h => by rw [List.take_of_length_le (by omega)]⟩
  have hlt : x < y.2.length := by omega
  have hr := allR_get y3 hlt
  have hi := itoa_le hr
  have hn := sayF_next (s := y.1) hlt
  generalize y.2.getD x 0 = m at *
  generalize sayF y.1 (y.2.take x) = u at *
  refine ⟨by simp; omega, by omega, h, ⟨hr⟩, by simp; omega, x + 1, by rw [hn]; simp, iadd64 (by omega) (by omega), ⟨by omega, by omega⟩⟩
theorem saiOk (hi : Ok itoC) : Ok saiC := okW saiV_eq hi saiH
theorem allR2 {a b : Int} (h1 : inR .i64 a = true) (h2 : inR .i64 b = true) : allR [a, b] := fun n hn => by
  simp at hn
  rcases hn with rfl | rfl
  · exact h1
  · exact h2
theorem allR3 {a b c : Int} (h1 : inR .i64 a = true) (h2 : inR .i64 b = true) (h3 : inR .i64 c = true) : allR [a, b, c] := fun n hn => by
  simp at hn
  rcases hn with rfl | rfl | rfl
  · exact h1
  · exact h2
  · exact h3
theorem toldF_len {t : Told} (h : okTold t) : (toldF t).length ≤ 60 := by
  have := sayF_len (s := [116, 111, 108, 100]) (allR2 h.1 h.2)
  unfold toldF
  rw [List.length_append]
  simp at this ⊢; omega
theorem recF_len {r : Rec} (h : okRd r) : (recF r).length ≤ 2000200 := by
  obtain ⟨h1, h2, h3, h4, h5, h6⟩ := h
  have k1 := sayF_len (s := [109, 97, 116, 99, 104]) (allR3 h1 h2 h3)
  have k2 := sayF_len (s := [108, 111, 110, 103]) (allR3 h1 h2 h3)
  have k3 := sayF_len (s := sayF [109, 97, 116, 99, 104] [r.ino, r.gen, r.pos] ++ 32 :: r.rule) (allR2 h4 h5)
  unfold recF
  split
  · simp at k1 k3 ⊢; omega
  · simp at k2 ⊢; omega
theorem flat_le {α : Type} {f : α → By} {n : Nat} : ∀ {l : List α}, (∀ a ∈ l, (f a).length ≤ n) → (l.flatMap f).length ≤ n * l.length
  | [], _ => by simp
  | a :: l, h => by
    have h1 := h a List.mem_cons_self
    have h2 := flat_le (l := l) fun b hb => h b (List.mem_cons_of_mem _ hb)
    rw [List.flatMap_cons, List.length_append, List.length_cons, Nat.mul_add]; omega
theorem errF_len {o : Out} (h : okOt o) : (errF o).length ≤ 60 := by
  have := sayF_len (s := [101, 114, 114, 111, 114]) (allR2 h.1 h.2.1)
  unfold errF
  split
  · simp
  · rw [List.length_append]; simp at this ⊢; omega
theorem toldP_len {o : Out} (h : okOt o) (i : Nat) : (toldP o i).length ≤ 60 + 60 * o.told.length := by
  have h1 := errF_len h
  have h2 := flat_le (f := toldF) (n := 60) (l := o.told.take i) fun t ht => toldF_len (h.2.2.2.2.1 t (List.mem_of_mem_take ht))
  have h3 : (o.told.take i).length ≤ o.told.length := by rw [List.length_take]; omega
  have := Nat.mul_le_mul_left 60 h3
  unfold toldP
  rw [List.length_append]; omega
theorem recP_len {o : Out} (h : okOt o) (i : Nat) : (recP o i).length ≤ 60 + 60 * o.told.length + 2000200 * o.recs.length := by
  have h1 := toldP_len h o.told.length
  have h2 := flat_le (f := recF) (n := 2000200) (l := o.recs.take i) fun t ht => recF_len (h.2.2.2.2.2 t (List.mem_of_mem_take ht))
  have h3 : (o.recs.take i).length ≤ o.recs.length := by rw [List.length_take]; omega
  have := Nat.mul_le_mul_left 2000200 h3
  unfold toldP at h1
  rw [List.take_length] at h1
  unfold recP
  rw [← List.append_assoc, List.length_append]; omega
theorem toldP_next {o : Out} {i : Nat} (h : i < o.told.length) : toldP o (i + 1) = toldP o i ++ toldF (o.told.getD i (0, 0)) := by
  unfold toldP
  rw [take_succD (0, 0) h]; simp
def r0 : Rec := Rec.mk 0 0 0 [] 0 0 0 0 0 0 0 0 0 0 0
theorem recP_next {o : Out} {i : Nat} (h : i < o.recs.length) : recP o (i + 1) = recP o i ++ recF (o.recs.getD i r0) := by
  unfold recP
  rw [take_succD r0 h]; simp
theorem get_in {α : Type} {d : α} {l : List α} {i : Nat} (h : i < l.length) : l.getD i d ∈ l := by
  have : l.getD i d = l[i] := by simp [h]
  rw [this]; exact List.getElem_mem h
theorem shwH (y : Out) (hy : shwC.pre y) : shwVC y := by
  have hy : okOt y := hy
  have hy0 := hy
  obtain ⟨y1, y2, y3, y4, y5, y6⟩ := hy0
  have hE := errF_len hy
  unfold shwVC
  simp only [Rfs_eq, Bth_eq, and_true, ile_t, ile_f, ilt_t, ilt_f, ieq_t, ieq_f, slen_eq, llen_eq, scat_eq, BIG_eq, gt_nat, Bool.not_eq_true', Bool.not_eq_false']
  refine ⟨⟨fun h => ⟨⟨by simp, by simp, allR2 y1 y2⟩, ?_, (), ?_, ⟨trivial⟩⟩, fun h => ⟨(), ?_, ⟨trivial⟩⟩⟩, fun _ _ => ⟨⟨0, by simp [toldP], rfl, ⟨by omega⟩⟩, fun x hx => ⟨fun h => ?_, fun h => ⟨⟨0, ?_, rfl, ⟨by omega⟩⟩, fun z hz => ⟨fun k => ?_, fun k => ?_⟩⟩⟩⟩⟩
  · have := sayF_len (s := [101, 114, 114, 111, 114]) (allR2 y1 y2)
    generalize sayF [101, 114, 114, 111, 114] [y.why, y.pos] = u at *
    simp at this ⊢; omega
  · unfold errF
    rw [if_neg h]; rfl
  · unfold errF
    rw [if_pos h]
  · have hx := hx.out
    have hlt : x < y.told.length := by omega
    have hl := toldP_len hy x
    have ht := y5 _ (get_in (d := (0, 0)) hlt)
    have hn := toldP_next hlt
    have hk := toldF_len ht
    generalize y.told.getD x (0, 0) = t at *
    have e : sayF [116, 111, 108, 100] [t.1, t.2] ++ [10] = toldF t := rfl
    rw [e]
    generalize toldP y x = u at *
    refine ⟨by omega, h, ⟨by simp, by simp, allR2 ht.1 ht.2⟩, by rw [List.length_append]; omega, x + 1, hn.symm, iadd64 (by omega) (by omega), ⟨by omega, by omega⟩⟩
  · have hx := hx.out
    unfold toldP recP
    rw [List.take_of_length_le (by omega)]; simp
  · have hz := hz.out
    have hlt : z < y.recs.length := by omega
    have hl := recP_len hy z
    have ht := y6 _ (get_in (d := r0) hlt)
    have hn := recP_next hlt
    have hk := recF_len ht
    have hr0 : Rec.mk 0 0 0 [] 0 0 0 0 0 0 0 0 0 0 0 = r0 := rfl
    rw [hr0]
    generalize y.recs.getD z r0 = r at *
    obtain ⟨t1, t2, t3, t4, t5, t6⟩ := ht
    have i1 := itoa_le t1
    have i2 := itoa_le t2
    have i3 := itoa_le t3
    have s2 := sayF_len (s := r.rule) (allR2 t4 t5)
    generalize recP y z = u at *
    refine ⟨by omega, k, fun q => ?_, fun q => ?_⟩
    · have e : [109, 97, 116, 99, 104, 32] ++ Lib.itoa r.ino ++ [32] ++ Lib.itoa r.gen ++ [32] ++ Lib.itoa r.pos ++ [32] ++ (sayF r.rule [r.c0, r.c1] ++ [10]) = recF r := by
        unfold recF
        rw [if_pos q]
        simp [sayF]
      have l2 : (sayF r.rule [r.c0, r.c1] ++ [10]).length ≤ 2000100 := by rw [List.length_append]; simp at s2 ⊢; omega
      generalize sayF r.rule [r.c0, r.c1] ++ [10] = v at *
      rw [e]
      refine ⟨⟨t1⟩, by simp; omega, by simp; omega, ⟨t2⟩, by simp; omega, by simp; omega, ⟨t3⟩, by simp; omega, by simp; omega, ⟨by omega, by simp, allR2 t4 t5⟩, by omega, by rw [List.length_append]; omega, z + 1, hn.symm, iadd64 (by omega) (by omega), ⟨by omega, by omega⟩⟩
    · have e : sayF [108, 111, 110, 103] [r.ino, r.gen, r.pos] ++ [10] = recF r := by
        unfold recF
        rw [if_neg q]
      rw [e]
      exact ⟨⟨by simp, by simp, allR3 t1 t2 t3⟩, by rw [List.length_append]; omega, z + 1, hn.symm, iadd64 (by omega) (by omega), ⟨by omega, by omega⟩⟩
  · have hz := hz.out
    unfold recP outF showF
    rw [List.take_of_length_le (by omega)]; rfl
theorem shwOk (hi : Ok itoC) : Ok shwC := okW shwV_eq ⟨sayOk hi, hi⟩ shwH
theorem rswH (y : Out) (hy : rswC.pre y) : rswVC y := by
  have hy : okOt y := hy
  have hy0 := hy
  obtain ⟨y1, y2, y3, y4, y5, y6⟩ := hy0
  have hE := errF_len hy
  unfold rswVC
  simp only [Rfs_eq, Bth_eq, and_true, ile_t, ile_f, ilt_t, ilt_f, ieq_t, ieq_f, slen_eq, llen_eq, scat_eq, BIG_eq, gt_nat, Bool.not_eq_true', Bool.not_eq_false']
  refine ⟨⟨fun h => ⟨⟨by simp, by simp, allR2 y1 y2⟩, ?_, (), ?_, ⟨trivial⟩⟩, fun h => ⟨(), ?_, ⟨trivial⟩⟩⟩, fun _ _ => ⟨⟨0, by simp [toldP], rfl, ⟨by omega⟩⟩, fun x hx => ⟨fun h => ?_, fun h => ⟨⟨0, ?_, rfl, ⟨by omega⟩⟩, fun z hz => ⟨fun k => ?_, fun k => ?_⟩⟩⟩⟩⟩
  · have := sayF_len (s := [101, 114, 114, 111, 114]) (allR2 y1 y2)
    generalize sayF [101, 114, 114, 111, 114] [y.why, y.pos] = u at *
    simp at this ⊢; omega
  · unfold errF
    rw [if_neg h]
  · unfold errF
    rw [if_pos h]
  · have hx := hx.out
    have hlt : x < y.told.length := by omega
    have hl := toldP_len hy x
    have ht := y5 _ (get_in (d := (0, 0)) hlt)
    have hn := toldP_next hlt
    have hk := toldF_len ht
    generalize y.told.getD x (0, 0) = t at *
    have e : toldF t = sayF [116, 111, 108, 100] [t.1, t.2] ++ [10] := rfl
    rw [e] at hn hk
    generalize toldP y x = u at *
    generalize hv : sayF [116, 111, 108, 100] [t.1, t.2] = v at *
    simp at hk
    refine ⟨by omega, h, by omega, h, ⟨by simp, by simp, allR2 ht.1 ht.2⟩, by simp; omega, by simp; omega, x + 1, by rw [hn]; simp, iadd64 (by omega) (by omega), ⟨by omega, by omega⟩⟩
  · have hx := hx.out
    unfold toldP recP
    rw [List.take_of_length_le (by omega)]; simp
  · have hz := hz.out
    have hlt : z < y.recs.length := by omega
    have hl := recP_len hy z
    have ht := y6 _ (get_in (d := r0) hlt)
    have hn := recP_next hlt
    have hk := recF_len ht
    have hr0 : Rec.mk 0 0 0 [] 0 0 0 0 0 0 0 0 0 0 0 = r0 := rfl
    rw [hr0]
    generalize y.recs.getD z r0 = r at *
    obtain ⟨t1, t2, t3, t4, t5, t6⟩ := ht
    have s1 := sayF_len (s := [109, 97, 116, 99, 104]) (allR3 t1 t2 t3)
    have s2 := sayF_len (s := sayF [109, 97, 116, 99, 104] [r.ino, r.gen, r.pos] ++ [32] ++ r.rule) (allR2 t4 t5)
    have s3 := sayF_len (s := [108, 111, 110, 103]) (allR3 t1 t2 t3)
    generalize recP y z = u at *
    refine ⟨by omega, k, fun q => ?_, fun q => ?_⟩
    · have e : recF r = sayF (sayF [109, 97, 116, 99, 104] [r.ino, r.gen, r.pos] ++ [32] ++ r.rule) [r.c0, r.c1] ++ [10] := by
        unfold recF
        rw [if_pos q]
        simp
      rw [e] at hn
      generalize sayF (sayF [109, 97, 116, 99, 104] [r.ino, r.gen, r.pos] ++ [32] ++ r.rule) [r.c0, r.c1] = v at *
      generalize sayF [109, 97, 116, 99, 104] [r.ino, r.gen, r.pos] = p at *
      simp at s1 s2
      refine ⟨⟨by simp, by simp, allR3 t1 t2 t3⟩, by simp; omega, by simp; omega, ⟨by simp; omega, by simp, allR2 t4 t5⟩, by simp; omega, by simp; omega, z + 1, by rw [hn]; simp, iadd64 (by omega) (by omega), ⟨by omega, by omega⟩⟩
    · have e : recF r = sayF [108, 111, 110, 103] [r.ino, r.gen, r.pos] ++ [10] := by
        unfold recF
        rw [if_neg q]
      rw [e] at hn
      generalize sayF [108, 111, 110, 103] [r.ino, r.gen, r.pos] = v at *
      simp at s3
      exact ⟨⟨by simp, by simp, allR3 t1 t2 t3⟩, by simp; omega, by simp; omega, z + 1, by rw [hn]; simp, iadd64 (by omega) (by omega), ⟨by omega, by omega⟩⟩
  · have hz := hz.out
    unfold recP outF showF
    rw [List.take_of_length_le (by omega)]; rfl
theorem rswOk (hi : Ok itoC) : Ok rswC := okW rswV_eq (saiOk hi) rswH
end Go.Proofs.YtjdehneddakpnaaGreatDoor.sx
namespace Go.Proofs.YtjdehneddakpnaaGreatDoor.sx
open Go Go.RowKit
set_option maxRecDepth 100000
theorem lawSH (y : Out) (hy : lawSC.pre y) : lawSVC y := by
  have hy : okOt y := hy
  have h3 := hy.2.2.1
  unfold lawSVC
  simp only [Rfs_eq, Tt_eq, Bth_eq, and_true, llen_eq, ilt_t, ilt_f, ile_t, fits_t, lcat_eq, gt_nat]
  refine ⟨⟨0, rfl, rfl, ⟨by omega⟩⟩, fun x hx => ⟨fun h => ?_, fun h => ?_⟩⟩
  · have hx := hx.out
    have hlt : x < y.told.length := by omega
    have hn := take_succD ((0, 0) : Told) hlt
    have hl : (y.told.take x).length ≤ 2000000 := by rw [List.length_take]; omega
    generalize y.told.getD x (0, 0) = t at *
    refine ⟨by omega, h, by omega, h, by simp; omega, x + 1, iadd64 (by omega) (by omega), hn.symm, ⟨by omega, by omega⟩⟩
  · have hx := hx.out
    have e : Out.mk y.why y.pos (y.told.take x) y.recs = y := by rw [List.take_of_length_le (by omega)]
    rw [e]
    refine ⟨⟨hy⟩, ⟨hy⟩, fun _ => ⟨trivial⟩, fun h => ?_⟩
    rw [seq_f] at h
    exact absurd rfl h
theorem lawSOk (hr : Ok runsC) : Ok lawSC := okW lawSV_eq ⟨shwOk itoOk, rswOk itoOk, hr⟩ lawSH
end Go.Proofs.YtjdehneddakpnaaGreatDoor.sx
