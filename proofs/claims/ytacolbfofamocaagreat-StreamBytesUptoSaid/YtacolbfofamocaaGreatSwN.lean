/- Contracts of readers: places, threads, rows of threads. -/
import Derived.Test.YtacolbfofamocaaGreatSwM
import Derived.Test.YtacolbfofamocaaGreatSwA
import Derived.OpenShut
import Derived.ProofKit
import Derived.Deep.Slices
namespace Go.Proofs.YtacolbfofamocaaGreat.sx
open Go Go.RowKit
noncomputable section
def sN (l : By) (s : RS) : Nat → RS
  | 0 => s
  | n + 1 => numS l (sN l s n)
def capR (l : By) (s : RS) (i : Nat) : Int := numR l (sN l s i) - 1
def capsR (l : By) (s : RS) : Caps := ⟨capR l s 0, capR l s 1, capR l s 2, capR l s 3, capR l s 4, capR l s 5, capR l s 6, capR l s 7, capR l s 8, capR l s 9⟩
def capsS (l : By) (s : RS) : RS := sN l s 10
def thrR (l : By) (s : RS) : Thread := ⟨numR l s, capR l (numS l s) 0, capR l (numS l s) 1, capR l (numS l s) 2, capR l (numS l s) 3, capR l (numS l s) 4, capR l (numS l s) 5, capR l (numS l s) 6, capR l (numS l s) 7, capR l (numS l s) 8, capR l (numS l s) 9⟩
def thrS (l : By) (s : RS) : RS := capsS l (numS l s)
def capsRC : Con D := { numRC with f := 62, res := fun y => .agg (encD 11 (capsR y.1 y.2)), heap' := fun y => rdO y.1 (capsS y.1 y.2) }
def capsRO (_ : capsRC.Y) : Orc D := ⟨[], [], [], [], 11, []⟩
def capsRV (y : capsRC.Y) : Prop := vcOf [numRC] Tryz.f62 capsRC capsRO y
def rcapsRC : Con D := { rnumRC with f := 67, res := fun y => .agg (encD 11 (capsR y.1 y.2)), heap' := fun y => rrdO y.1 (capsS y.1 y.2) }
def rcapsRO (_ : rcapsRC.Y) : Orc D := ⟨[], [], [], [], 11, []⟩
def rcapsRV (y : rcapsRC.Y) : Prop := vcOf [rnumRC] Tryz.f67 rcapsRC rcapsRO y
def thrRC : Con D := { numRC with f := 64, res := fun y => .agg (encD 1 (thrR y.1 y.2)), heap' := fun y => rdO y.1 (thrS y.1 y.2) }
def thrRO (_ : thrRC.Y) : Orc D := noO ()
def thrRV (y : thrRC.Y) : Prop := vcOf [numRC, capsRC] Tryz.f64 thrRC thrRO y
/-- a row's count: how many, and the reader behind it -/
def cntR (l : By) (s : RS) (m : Int) : Int := uptoR l s m
def cntS (l : By) (s : RS) (m : Int) : RS := if (uptoS l s m).err = 0 ∧ (l.length : Int) - (uptoS l s m).at_ < uptoR l s m then ⟨s.at_, 3⟩ else uptoS l s m
/-- the count's number, none if there is an error -/
def cntN (l : By) (s : RS) (m : Int) : Int := if (cntS l s m).err ≠ 0 then 0 else uptoR l s m
section
variable {α : Type} (one : RS → α) (nxt : RS → RS)
/-- the reader behind i things, and these -/
def itS (s : RS) : Nat → RS
  | 0 => s
  | i + 1 => nxt (itS s i)
def itL (s : RS) (i : Nat) : List α := (List.range i).map fun j => one (itS nxt s j)
/-- so many things of n are read: none behind an error -/
def itN (s : RS) : Nat → Nat
  | 0 => 0
  | n + 1 => if itN s n = n ∧ (itS nxt s n).err = 0 then n + 1 else itN s n
end
def lthrS (l : By) (s : RS) : RS := itS (thrS l) (cntS l s 400) (itN (thrS l) (cntS l s 400) (cntR l s 400).toNat)
/-- part: what stands ahead of an error is kept -/
def lthrR (l : By) (s : RS) (part : Bool) : List Thread := if (lthrS l s).err ≠ 0 ∧ part = false then [] else itL (thrR l) (thrS l) (cntS l s 400) (itN (thrS l) (cntS l s 400) (cntR l s 400).toNat)
def okI (nxt : RS → RS) (s : RS) (i : Nat) : Prop := ∀ j, j < i → (itS nxt s j).err = 0
def lthrRC : Con D where
  f := 63
  Y := By × RS
  inp := fun args s => match args with
    | [p, _, _] => asR p s
    | _ => .fail
  pre := RdOk
  args := fun _ => [.ptr 0 0, .num .i64 400, .func (.func 64) [] []]
  heap := fun y => rdO y.1 y.2
  res := fun y => .list 1 (lthrR y.1 y.2 false)
  heap' := fun y => rdO y.1 (lthrS y.1 y.2)
  nx0 := 1
  nx1 := 1
def lthrRO (y : lthrRC.Y) : Orc D := ⟨[], [], [(506, { X := Nat, keep := [0, 2, 8], sl := fun i => [(9, .grow 1 (itL (thrR y.1) (thrS y.1) (cntS y.1 y.2 400) i) 1), (10, .int .i64 i)], kp := [], pc := fun i => rdO y.1 (itS (thrS y.1) (cntS y.1 y.2 400) i) ++ [(1, .tok 1 117)], nx := 2, inv := fun i => i ≤ (cntR y.1 y.2 400).toNat ∧ okI (thrS y.1) (cntS y.1 y.2 400) i, me := fun i => (cntR y.1 y.2 400).toNat - i })],
  [(15, { X := Unit, keep := [0, 2], sl := fun _ => [(8, .int .i64 (cntR y.1 y.2 400))], kp := [], pc := fun _ => rdO y.1 (cntS y.1 y.2 400), nx := 1, inv := fun _ => True, me := fun _ => 0 })], 1, []⟩
def lthrRV (y : lthrRC.Y) : Prop := vcOf [uptoRC, wrongC, thrRC] Tryz.f63 lthrRC lthrRO y
def ritemsC : Con D := { uptoRC with f := 66, heap := fun y => rrdO y.1.1 y.1.2, res := fun y => .int .i64 (cntN y.1.1 y.1.2 y.2), heap' := fun y => rrdO y.1.1 (cntS y.1.1 y.1.2 y.2) }
def ritemsO (_ : ritemsC.Y) : Orc D := noO ()
def ritemsV (y : ritemsC.Y) : Prop := vcOf [ruptoRC] Tryz.f66 ritemsC ritemsO y
end
end Go.Proofs.YtacolbfofamocaaGreat.sx
/- Conditions, as a tool printed them; that they are the functions' own the kernel computes. -/
namespace Go.Proofs.YtacolbfofamocaaGreat.sx
open Go Go.RowKit
def capsRVC (y : Prod (List UInt8) RS) : Prop :=
 (Iv (RdOk (y.1, y.2))) ∧
 Rfs (([y.1] : List (List UInt8))) (
  Rfs (([RS.at_ y.2, RS.err y.2] : List Int)) (
  (Iv (RdOk (y.1, numS y.1 y.2))) ∧
  Rfs (([y.1] : List (List UInt8))) (
  Rfs (([RS.at_ (numS y.1 y.2), RS.err (numS y.1 y.2)] : List Int)) (
  (Iv (RdOk (y.1, numS y.1 (numS y.1 y.2)))) ∧
  Rfs (([y.1] : List (List UInt8))) (
  Rfs (([RS.at_ (numS y.1 (numS y.1 y.2)), RS.err (numS y.1 (numS y.1 y.2))] : List Int)) (
  (Iv (RdOk (y.1, numS y.1 (numS y.1 (numS y.1 y.2))))) ∧
  Rfs (([y.1] : List (List UInt8))) (
  Rfs (([RS.at_ (numS y.1 (numS y.1 (numS y.1 y.2))), RS.err (numS y.1 (numS y.1 (numS y.1 y.2)))] : List Int)) (
  (Iv (RdOk (y.1, numS y.1 (numS y.1 (numS y.1 (numS y.1 y.2)))))) ∧
  Rfs (([y.1] : List (List UInt8))) (
  Rfs (([RS.at_ (numS y.1 (numS y.1 (numS y.1 (numS y.1 y.2)))), RS.err (numS y.1 (numS y.1 (numS y.1 (numS y.1 y.2))))] : List Int)) (
  (Iv (RdOk (y.1, numS y.1 (numS y.1 (numS y.1 (numS y.1 (numS y.1 y.2))))))) ∧
  Rfs (([y.1] : List (List UInt8))) (
  Rfs (([RS.at_ (numS y.1 (numS y.1 (numS y.1 (numS y.1 (numS y.1 y.2))))), RS.err (numS y.1 (numS y.1 (numS y.1 (numS y.1 (numS y.1 y.2)))))] : List Int)) (
  (Iv (RdOk (y.1, numS y.1 (numS y.1 (numS y.1 (numS y.1 (numS y.1 (numS y.1 y.2)))))))) ∧
  Rfs (([y.1] : List (List UInt8))) (
  Rfs (([RS.at_ (numS y.1 (numS y.1 (numS y.1 (numS y.1 (numS y.1 (numS y.1 y.2)))))), RS.err (numS y.1 (numS y.1 (numS y.1 (numS y.1 (numS y.1 (numS y.1 y.2))))))] : List Int)) (
  (Iv (RdOk (y.1, numS y.1 (numS y.1 (numS y.1 (numS y.1 (numS y.1 (numS y.1 (numS y.1 y.2))))))))) ∧
  Rfs (([y.1] : List (List UInt8))) (
  Rfs (([RS.at_ (numS y.1 (numS y.1 (numS y.1 (numS y.1 (numS y.1 (numS y.1 (numS y.1 y.2))))))), RS.err (numS y.1 (numS y.1 (numS y.1 (numS y.1 (numS y.1 (numS y.1 (numS y.1 y.2)))))))] : List Int)) (
  (Iv (RdOk (y.1, numS y.1 (numS y.1 (numS y.1 (numS y.1 (numS y.1 (numS y.1 (numS y.1 (numS y.1 y.2)))))))))) ∧
  Rfs (([y.1] : List (List UInt8))) (
  Rfs (([RS.at_ (numS y.1 (numS y.1 (numS y.1 (numS y.1 (numS y.1 (numS y.1 (numS y.1 (numS y.1 y.2)))))))), RS.err (numS y.1 (numS y.1 (numS y.1 (numS y.1 (numS y.1 (numS y.1 (numS y.1 (numS y.1 y.2))))))))] : List Int)) (
  (Iv (RdOk (y.1, numS y.1 (numS y.1 (numS y.1 (numS y.1 (numS y.1 (numS y.1 (numS y.1 (numS y.1 (numS y.1 y.2))))))))))) ∧
  Rfs (([y.1] : List (List UInt8))) (
  Rfs (([RS.at_ (numS y.1 (numS y.1 (numS y.1 (numS y.1 (numS y.1 (numS y.1 (numS y.1 (numS y.1 (numS y.1 y.2))))))))), RS.err (numS y.1 (numS y.1 (numS y.1 (numS y.1 (numS y.1 (numS y.1 (numS y.1 (numS y.1 (numS y.1 y.2)))))))))] : List Int)) (
  (@Eq Int (isub IntKind.i64 (numR y.1 y.2) (1 : Int)) (capR y.1 y.2 0)) ∧
  (@Eq Int (isub IntKind.i64 (numR y.1 (numS y.1 y.2)) (1 : Int)) (capR y.1 y.2 1)) ∧
  (@Eq Int (isub IntKind.i64 (numR y.1 (numS y.1 (numS y.1 y.2))) (1 : Int)) (capR y.1 y.2 2)) ∧
  (@Eq Int (isub IntKind.i64 (numR y.1 (numS y.1 (numS y.1 (numS y.1 y.2)))) (1 : Int)) (capR y.1 y.2 3)) ∧
  (@Eq Int (isub IntKind.i64 (numR y.1 (numS y.1 (numS y.1 (numS y.1 (numS y.1 y.2))))) (1 : Int)) (capR y.1 y.2 4)) ∧
  (@Eq Int (isub IntKind.i64 (numR y.1 (numS y.1 (numS y.1 (numS y.1 (numS y.1 (numS y.1 y.2)))))) (1 : Int)) (capR y.1 y.2 5)) ∧
  (@Eq Int (isub IntKind.i64 (numR y.1 (numS y.1 (numS y.1 (numS y.1 (numS y.1 (numS y.1 (numS y.1 y.2))))))) (1 : Int)) (capR y.1 y.2 6)) ∧
  (@Eq Int (isub IntKind.i64 (numR y.1 (numS y.1 (numS y.1 (numS y.1 (numS y.1 (numS y.1 (numS y.1 (numS y.1 y.2)))))))) (1 : Int)) (capR y.1 y.2 7)) ∧
  (@Eq Int (isub IntKind.i64 (numR y.1 (numS y.1 (numS y.1 (numS y.1 (numS y.1 (numS y.1 (numS y.1 (numS y.1 (numS y.1 y.2))))))))) (1 : Int)) (capR y.1 y.2 8)) ∧
  (@Eq Int (isub IntKind.i64 (numR y.1 (numS y.1 (numS y.1 (numS y.1 (numS y.1 (numS y.1 (numS y.1 (numS y.1 (numS y.1 (numS y.1 y.2)))))))))) (1 : Int)) (capR y.1 y.2 9)) ∧
  Rfs (([y.1] : List (List UInt8))) (
  (@Eq Int (RS.at_ (numS y.1 (numS y.1 (numS y.1 (numS y.1 (numS y.1 (numS y.1 (numS y.1 (numS y.1 (numS y.1 (numS y.1 y.2))))))))))) (RS.at_ (capsS y.1 y.2))) ∧
  (@Eq Int (RS.err (numS y.1 (numS y.1 (numS y.1 (numS y.1 (numS y.1 (numS y.1 (numS y.1 (numS y.1 (numS y.1 (numS y.1 y.2))))))))))) (RS.err (capsS y.1 y.2))) ∧
  True)))))))))))))))))))))
theorem capsRV_eq : ∀ y, capsRVC y = capsRV y := fun y => by kernel_rfl
def rcapsRVC (y : Prod (List UInt8) RS) : Prop :=
 (Iv (RdOk (y.1, y.2))) ∧
 Rfs (([y.1] : List (List UInt8))) (
  Rfs (([RS.at_ y.2, RS.err y.2] : List Int)) (
  (Iv (RdOk (y.1, numS y.1 y.2))) ∧
  Rfs (([y.1] : List (List UInt8))) (
  Rfs (([RS.at_ (numS y.1 y.2), RS.err (numS y.1 y.2)] : List Int)) (
  (Iv (RdOk (y.1, numS y.1 (numS y.1 y.2)))) ∧
  Rfs (([y.1] : List (List UInt8))) (
  Rfs (([RS.at_ (numS y.1 (numS y.1 y.2)), RS.err (numS y.1 (numS y.1 y.2))] : List Int)) (
  (Iv (RdOk (y.1, numS y.1 (numS y.1 (numS y.1 y.2))))) ∧
  Rfs (([y.1] : List (List UInt8))) (
  Rfs (([RS.at_ (numS y.1 (numS y.1 (numS y.1 y.2))), RS.err (numS y.1 (numS y.1 (numS y.1 y.2)))] : List Int)) (
  (Iv (RdOk (y.1, numS y.1 (numS y.1 (numS y.1 (numS y.1 y.2)))))) ∧
  Rfs (([y.1] : List (List UInt8))) (
  Rfs (([RS.at_ (numS y.1 (numS y.1 (numS y.1 (numS y.1 y.2)))), RS.err (numS y.1 (numS y.1 (numS y.1 (numS y.1 y.2))))] : List Int)) (
  (Iv (RdOk (y.1, numS y.1 (numS y.1 (numS y.1 (numS y.1 (numS y.1 y.2))))))) ∧
  Rfs (([y.1] : List (List UInt8))) (
  Rfs (([RS.at_ (numS y.1 (numS y.1 (numS y.1 (numS y.1 (numS y.1 y.2))))), RS.err (numS y.1 (numS y.1 (numS y.1 (numS y.1 (numS y.1 y.2)))))] : List Int)) (
  (Iv (RdOk (y.1, numS y.1 (numS y.1 (numS y.1 (numS y.1 (numS y.1 (numS y.1 y.2)))))))) ∧
  Rfs (([y.1] : List (List UInt8))) (
  Rfs (([RS.at_ (numS y.1 (numS y.1 (numS y.1 (numS y.1 (numS y.1 (numS y.1 y.2)))))), RS.err (numS y.1 (numS y.1 (numS y.1 (numS y.1 (numS y.1 (numS y.1 y.2))))))] : List Int)) (
  (Iv (RdOk (y.1, numS y.1 (numS y.1 (numS y.1 (numS y.1 (numS y.1 (numS y.1 (numS y.1 y.2))))))))) ∧
  Rfs (([y.1] : List (List UInt8))) (
  Rfs (([RS.at_ (numS y.1 (numS y.1 (numS y.1 (numS y.1 (numS y.1 (numS y.1 (numS y.1 y.2))))))), RS.err (numS y.1 (numS y.1 (numS y.1 (numS y.1 (numS y.1 (numS y.1 (numS y.1 y.2)))))))] : List Int)) (
  (Iv (RdOk (y.1, numS y.1 (numS y.1 (numS y.1 (numS y.1 (numS y.1 (numS y.1 (numS y.1 (numS y.1 y.2)))))))))) ∧
  Rfs (([y.1] : List (List UInt8))) (
  Rfs (([RS.at_ (numS y.1 (numS y.1 (numS y.1 (numS y.1 (numS y.1 (numS y.1 (numS y.1 (numS y.1 y.2)))))))), RS.err (numS y.1 (numS y.1 (numS y.1 (numS y.1 (numS y.1 (numS y.1 (numS y.1 (numS y.1 y.2))))))))] : List Int)) (
  (Iv (RdOk (y.1, numS y.1 (numS y.1 (numS y.1 (numS y.1 (numS y.1 (numS y.1 (numS y.1 (numS y.1 (numS y.1 y.2))))))))))) ∧
  Rfs (([y.1] : List (List UInt8))) (
  Rfs (([RS.at_ (numS y.1 (numS y.1 (numS y.1 (numS y.1 (numS y.1 (numS y.1 (numS y.1 (numS y.1 (numS y.1 y.2))))))))), RS.err (numS y.1 (numS y.1 (numS y.1 (numS y.1 (numS y.1 (numS y.1 (numS y.1 (numS y.1 (numS y.1 y.2)))))))))] : List Int)) (
  (@Eq Int (isub IntKind.i64 (numR y.1 y.2) (1 : Int)) (capR y.1 y.2 0)) ∧
  (@Eq Int (isub IntKind.i64 (numR y.1 (numS y.1 y.2)) (1 : Int)) (capR y.1 y.2 1)) ∧
  (@Eq Int (isub IntKind.i64 (numR y.1 (numS y.1 (numS y.1 y.2))) (1 : Int)) (capR y.1 y.2 2)) ∧
  (@Eq Int (isub IntKind.i64 (numR y.1 (numS y.1 (numS y.1 (numS y.1 y.2)))) (1 : Int)) (capR y.1 y.2 3)) ∧
  (@Eq Int (isub IntKind.i64 (numR y.1 (numS y.1 (numS y.1 (numS y.1 (numS y.1 y.2))))) (1 : Int)) (capR y.1 y.2 4)) ∧
  (@Eq Int (isub IntKind.i64 (numR y.1 (numS y.1 (numS y.1 (numS y.1 (numS y.1 (numS y.1 y.2)))))) (1 : Int)) (capR y.1 y.2 5)) ∧
  (@Eq Int (isub IntKind.i64 (numR y.1 (numS y.1 (numS y.1 (numS y.1 (numS y.1 (numS y.1 (numS y.1 y.2))))))) (1 : Int)) (capR y.1 y.2 6)) ∧
  (@Eq Int (isub IntKind.i64 (numR y.1 (numS y.1 (numS y.1 (numS y.1 (numS y.1 (numS y.1 (numS y.1 (numS y.1 y.2)))))))) (1 : Int)) (capR y.1 y.2 7)) ∧
  (@Eq Int (isub IntKind.i64 (numR y.1 (numS y.1 (numS y.1 (numS y.1 (numS y.1 (numS y.1 (numS y.1 (numS y.1 (numS y.1 y.2))))))))) (1 : Int)) (capR y.1 y.2 8)) ∧
  (@Eq Int (isub IntKind.i64 (numR y.1 (numS y.1 (numS y.1 (numS y.1 (numS y.1 (numS y.1 (numS y.1 (numS y.1 (numS y.1 (numS y.1 y.2)))))))))) (1 : Int)) (capR y.1 y.2 9)) ∧
  Rfs (([y.1] : List (List UInt8))) (
  (@Eq Int (RS.at_ (numS y.1 (numS y.1 (numS y.1 (numS y.1 (numS y.1 (numS y.1 (numS y.1 (numS y.1 (numS y.1 (numS y.1 y.2))))))))))) (RS.at_ (capsS y.1 y.2))) ∧
  (@Eq Int (RS.err (numS y.1 (numS y.1 (numS y.1 (numS y.1 (numS y.1 (numS y.1 (numS y.1 (numS y.1 (numS y.1 (numS y.1 y.2))))))))))) (RS.err (capsS y.1 y.2))) ∧
  True)))))))))))))))))))))
theorem rcapsRV_eq : ∀ y, rcapsRVC y = rcapsRV y := fun y => by kernel_rfl
def thrRVC (y : Prod (List UInt8) RS) : Prop :=
 (Iv (RdOk (y.1, y.2))) ∧
 Rfs (([y.1] : List (List UInt8))) (
  Rfs (([RS.at_ y.2, RS.err y.2] : List Int)) (
  (Iv (RdOk (y.1, numS y.1 y.2))) ∧
  Rfs (([y.1] : List (List UInt8))) (
  Rfs (([RS.at_ (numS y.1 y.2), RS.err (numS y.1 y.2), numR y.1 y.2, capR y.1 (numS y.1 y.2) 0, capR y.1 (numS y.1 y.2) 1, capR y.1 (numS y.1 y.2) 2, capR y.1 (numS y.1 y.2) 3, capR y.1 (numS y.1 y.2) 4, capR y.1 (numS y.1 y.2) 5, capR y.1 (numS y.1 y.2) 6, capR y.1 (numS y.1 y.2) 7, capR y.1 (numS y.1 y.2) 8, capR y.1 (numS y.1 y.2) 9] : List Int)) (
  Rfs (([y.1] : List (List UInt8))) (
  (@Eq Int (RS.at_ (capsS y.1 (numS y.1 y.2))) (RS.at_ (thrS y.1 y.2))) ∧
  (@Eq Int (RS.err (capsS y.1 (numS y.1 y.2))) (RS.err (thrS y.1 y.2))) ∧
  True)))))
theorem thrRV_eq : ∀ y, thrRVC y = thrRV y := fun y => by kernel_rfl
def lthrRVC (y : Prod (List UInt8) RS) : Prop :=
 (Iv (RdOk (y.1, y.2))) ∧
 Rfs (([(400 : Int)] : List Int)) (
  Rfs (([y.1] : List (List UInt8))) (
  Rfs (([RS.at_ y.2, RS.err y.2] : List Int)) (
  (
  (
  ((ieq (RS.err (uptoS y.1 y.2 (400 : Int))) (0 : Int)) = true) →
  Rfs (([RS.err (uptoS y.1 y.2 (400 : Int))] : List Int)) (
  Rfs (([y.1] : List (List UInt8))) (
  Rfs (([RS.at_ (uptoS y.1 y.2 (400 : Int))] : List Int)) (
  (
  ((ilt (isub IntKind.i64 (llen y.1) (RS.at_ (uptoS y.1 y.2 (400 : Int)))) (uptoR y.1 y.2 (400 : Int))) = true) →
  (Iv True) ∧
  Rfs (([RS.at_ y.2, (3 : Int)] : List Int)) (
  Rfs (([y.1] : List (List UInt8))) (
  Rfs (([RS.at_ (uptoS y.1 y.2 (400 : Int)), RS.err (uptoS y.1 y.2 (400 : Int))] : List Int)) (
  ∃ _z : Unit,
  (@Eq Int (uptoR y.1 y.2 (400 : Int)) (cntR y.1 y.2 (400 : Int))) ∧
  Rfs (([y.1] : List (List UInt8))) (
  (@Eq Int (RS.at_ y.2) (RS.at_ (cntS y.1 y.2 (400 : Int)))) ∧
  (@Eq Int (3 : Int) (RS.err (cntS y.1 y.2 (400 : Int)))) ∧
  (Iv True)))))) ∧
  (
  ((ilt (isub IntKind.i64 (llen y.1) (RS.at_ (uptoS y.1 y.2 (400 : Int)))) (uptoR y.1 y.2 (400 : Int))) = false) →
  ∃ _z : Unit,
  (@Eq Int (uptoR y.1 y.2 (400 : Int)) (cntR y.1 y.2 (400 : Int))) ∧
  Rfs (([y.1] : List (List UInt8))) (
  (@Eq Int (RS.at_ (uptoS y.1 y.2 (400 : Int))) (RS.at_ (cntS y.1 y.2 (400 : Int)))) ∧
  (@Eq Int (RS.err (uptoS y.1 y.2 (400 : Int))) (RS.err (cntS y.1 y.2 (400 : Int)))) ∧
  (Iv True))))))) ∧
  (
  ((ieq (RS.err (uptoS y.1 y.2 (400 : Int))) (0 : Int)) = false) →
  Rfs (([RS.err (uptoS y.1 y.2 (400 : Int))] : List Int)) (
  ∃ _z : Unit,
  (@Eq Int (uptoR y.1 y.2 (400 : Int)) (cntR y.1 y.2 (400 : Int))) ∧
  Rfs (([y.1] : List (List UInt8))) (
  (@Eq Int (RS.at_ (uptoS y.1 y.2 (400 : Int))) (RS.at_ (cntS y.1 y.2 (400 : Int)))) ∧
  (@Eq Int (RS.err (uptoS y.1 y.2 (400 : Int))) (RS.err (cntS y.1 y.2 (400 : Int)))) ∧
  (Iv True))))) ∧
  (
  ∀ _x : Unit,
  (Iv True) →
  (
  ∃ z : Nat,
  Rfs (([cntR y.1 y.2 (400 : Int)] : List Int)) (
  (@Eq (List Thread) ([] : List Thread) (itL (thrR y.1) (thrS y.1) (cntS y.1 y.2 (400 : Int)) z)) ∧
  (@Eq Int (0 : Int) ((z : Nat) : Int)) ∧
  Rfs (([y.1] : List (List UInt8))) (
  (@Eq Int (RS.at_ (cntS y.1 y.2 (400 : Int))) (RS.at_ (itS (thrS y.1) (cntS y.1 y.2 (400 : Int)) z))) ∧
  (@Eq Int (RS.err (cntS y.1 y.2 (400 : Int))) (RS.err (itS (thrS y.1) (cntS y.1 y.2 (400 : Int)) z))) ∧
  (Iv (((z : Nat) ≤ (Int.toNat (cntR y.1 y.2 (400 : Int)))) ∧ okI (thrS y.1) (cntS y.1 y.2 (400 : Int)) z))))) ∧
  (
  ∀ x1 : Nat,
  (Iv (((x1 : Nat) ≤ (Int.toNat (cntR y.1 y.2 (400 : Int)))) ∧ okI (thrS y.1) (cntS y.1 y.2 (400 : Int)) x1)) →
  (
  ((ilt ((x1 : Nat) : Int) (cntR y.1 y.2 (400 : Int))) = true) →
  (
  ((ieq (RS.err (itS (thrS y.1) (cntS y.1 y.2 (400 : Int)) x1)) (0 : Int)) = true) →
  (Iv (RdOk (y.1, itS (thrS y.1) (cntS y.1 y.2 (400 : Int)) x1))) ∧
  Rfs (([y.1] : List (List UInt8))) (
  Rfs (([RS.at_ (itS (thrS y.1) (cntS y.1 y.2 (400 : Int)) x1), RS.err (itS (thrS y.1) (cntS y.1 y.2 (400 : Int)) x1)] : List Int)) (
  ((fits (llen (lcat (itL (thrR y.1) (thrS y.1) (cntS y.1 y.2 (400 : Int)) x1) ((Thread.mk (numR y.1 (itS (thrS y.1) (cntS y.1 y.2 (400 : Int)) x1)) (capR y.1 (numS y.1 (itS (thrS y.1) (cntS y.1 y.2 (400 : Int)) x1)) 0) (capR y.1 (numS y.1 (itS (thrS y.1) (cntS y.1 y.2 (400 : Int)) x1)) 1) (capR y.1 (numS y.1 (itS (thrS y.1) (cntS y.1 y.2 (400 : Int)) x1)) 2) (capR y.1 (numS y.1 (itS (thrS y.1) (cntS y.1 y.2 (400 : Int)) x1)) 3) (capR y.1 (numS y.1 (itS (thrS y.1) (cntS y.1 y.2 (400 : Int)) x1)) 4) (capR y.1 (numS y.1 (itS (thrS y.1) (cntS y.1 y.2 (400 : Int)) x1)) 5) (capR y.1 (numS y.1 (itS (thrS y.1) (cntS y.1 y.2 (400 : Int)) x1)) 6) (capR y.1 (numS y.1 (itS (thrS y.1) (cntS y.1 y.2 (400 : Int)) x1)) 7) (capR y.1 (numS y.1 (itS (thrS y.1) (cntS y.1 y.2 (400 : Int)) x1)) 8) (capR y.1 (numS y.1 (itS (thrS y.1) (cntS y.1 y.2 (400 : Int)) x1)) 9)) :: ([] : List Thread)))) 88) = true) ∧
  ∃ z : Nat,
  Rfs (([cntR y.1 y.2 (400 : Int)] : List Int)) (
  (@Eq (List Thread) (lcat (itL (thrR y.1) (thrS y.1) (cntS y.1 y.2 (400 : Int)) x1) ((Thread.mk (numR y.1 (itS (thrS y.1) (cntS y.1 y.2 (400 : Int)) x1)) (capR y.1 (numS y.1 (itS (thrS y.1) (cntS y.1 y.2 (400 : Int)) x1)) 0) (capR y.1 (numS y.1 (itS (thrS y.1) (cntS y.1 y.2 (400 : Int)) x1)) 1) (capR y.1 (numS y.1 (itS (thrS y.1) (cntS y.1 y.2 (400 : Int)) x1)) 2) (capR y.1 (numS y.1 (itS (thrS y.1) (cntS y.1 y.2 (400 : Int)) x1)) 3) (capR y.1 (numS y.1 (itS (thrS y.1) (cntS y.1 y.2 (400 : Int)) x1)) 4) (capR y.1 (numS y.1 (itS (thrS y.1) (cntS y.1 y.2 (400 : Int)) x1)) 5) (capR y.1 (numS y.1 (itS (thrS y.1) (cntS y.1 y.2 (400 : Int)) x1)) 6) (capR y.1 (numS y.1 (itS (thrS y.1) (cntS y.1 y.2 (400 : Int)) x1)) 7) (capR y.1 (numS y.1 (itS (thrS y.1) (cntS y.1 y.2 (400 : Int)) x1)) 8) (capR y.1 (numS y.1 (itS (thrS y.1) (cntS y.1 y.2 (400 : Int)) x1)) 9)) :: ([] : List Thread))) (itL (thrR y.1) (thrS y.1) (cntS y.1 y.2 (400 : Int)) z)) ∧
  (@Eq Int (iadd IntKind.i64 ((x1 : Nat) : Int) (1 : Int)) ((z : Nat) : Int)) ∧
  Rfs (([y.1] : List (List UInt8))) (
  (@Eq Int (RS.at_ (thrS y.1 (itS (thrS y.1) (cntS y.1 y.2 (400 : Int)) x1))) (RS.at_ (itS (thrS y.1) (cntS y.1 y.2 (400 : Int)) z))) ∧
  (@Eq Int (RS.err (thrS y.1 (itS (thrS y.1) (cntS y.1 y.2 (400 : Int)) x1))) (RS.err (itS (thrS y.1) (cntS y.1 y.2 (400 : Int)) z))) ∧
  (Iv ((((z : Nat) ≤ (Int.toNat (cntR y.1 y.2 (400 : Int)))) ∧ okI (thrS y.1) (cntS y.1 y.2 (400 : Int)) z) ∧ ((Int.toNat (cntR y.1 y.2 (400 : Int)) : Nat) - z : Nat) < ((Int.toNat (cntR y.1 y.2 (400 : Int)) : Nat) - x1)))))))) ∧
  (
  ((ieq (RS.err (itS (thrS y.1) (cntS y.1 y.2 (400 : Int)) x1)) (0 : Int)) = false) →
  (
  ((Bool.not (ieq (RS.err (itS (thrS y.1) (cntS y.1 y.2 (400 : Int)) x1)) (0 : Int))) = true) →
  (@Eq (List Thread) ([] : List Thread) (lthrR y.1 y.2 Bool.false)) ∧
  Rfs (([y.1] : List (List UInt8))) (
  (@Eq Int (RS.at_ (itS (thrS y.1) (cntS y.1 y.2 (400 : Int)) x1)) (RS.at_ (lthrS y.1 y.2))) ∧
  (@Eq Int (RS.err (itS (thrS y.1) (cntS y.1 y.2 (400 : Int)) x1)) (RS.err (lthrS y.1 y.2))) ∧
  True)) ∧
  (
  ((Bool.not (ieq (RS.err (itS (thrS y.1) (cntS y.1 y.2 (400 : Int)) x1)) (0 : Int))) = false) →
  (@Eq (List Thread) (itL (thrR y.1) (thrS y.1) (cntS y.1 y.2 (400 : Int)) x1) (lthrR y.1 y.2 Bool.false)) ∧
  Rfs (([y.1] : List (List UInt8))) (
  (@Eq Int (RS.at_ (itS (thrS y.1) (cntS y.1 y.2 (400 : Int)) x1)) (RS.at_ (lthrS y.1 y.2))) ∧
  (@Eq Int (RS.err (itS (thrS y.1) (cntS y.1 y.2 (400 : Int)) x1)) (RS.err (lthrS y.1 y.2))) ∧
  True)))) ∧
  (
  ((ilt ((x1 : Nat) : Int) (cntR y.1 y.2 (400 : Int))) = false) →
  (
  ((Bool.not (ieq (RS.err (itS (thrS y.1) (cntS y.1 y.2 (400 : Int)) x1)) (0 : Int))) = true) →
  (@Eq (List Thread) ([] : List Thread) (lthrR y.1 y.2 Bool.false)) ∧
  Rfs (([y.1] : List (List UInt8))) (
  (@Eq Int (RS.at_ (itS (thrS y.1) (cntS y.1 y.2 (400 : Int)) x1)) (RS.at_ (lthrS y.1 y.2))) ∧
  (@Eq Int (RS.err (itS (thrS y.1) (cntS y.1 y.2 (400 : Int)) x1)) (RS.err (lthrS y.1 y.2))) ∧
  True)) ∧
  (
  ((Bool.not (ieq (RS.err (itS (thrS y.1) (cntS y.1 y.2 (400 : Int)) x1)) (0 : Int))) = false) →
  (@Eq (List Thread) (itL (thrR y.1) (thrS y.1) (cntS y.1 y.2 (400 : Int)) x1) (lthrR y.1 y.2 Bool.false)) ∧
  Rfs (([y.1] : List (List UInt8))) (
  (@Eq Int (RS.at_ (itS (thrS y.1) (cntS y.1 y.2 (400 : Int)) x1)) (RS.at_ (lthrS y.1 y.2))) ∧
  (@Eq Int (RS.err (itS (thrS y.1) (cntS y.1 y.2 (400 : Int)) x1)) (RS.err (lthrS y.1 y.2))) ∧
  True))))))))
theorem lthrRV_eq : ∀ y, lthrRVC y = lthrRV y := fun y => by kernel_rfl
def ritemsVC (y : Prod (Prod (List UInt8) RS) Int) : Prop :=
 (Iv (RdOk (y.1.1, y.1.2))) ∧
 Rfs (([y.2] : List Int)) (
  Rfs (([y.1.1] : List (List UInt8))) (
  Rfs (([RS.at_ y.1.2, RS.err y.1.2] : List Int)) (
  (
  ((ieq (RS.err (uptoS y.1.1 y.1.2 y.2)) (0 : Int)) = true) →
  Rfs (([RS.err (uptoS y.1.1 y.1.2 y.2)] : List Int)) (
  Rfs (([y.1.1] : List (List UInt8))) (
  Rfs (([RS.at_ (uptoS y.1.1 y.1.2 y.2)] : List Int)) (
  (
  ((ilt (isub IntKind.i64 (llen y.1.1) (RS.at_ (uptoS y.1.1 y.1.2 y.2))) (uptoR y.1.1 y.1.2 y.2)) = true) →
  (@Eq Int (0 : Int) (cntN y.1.1 y.1.2 y.2)) ∧
  Rfs (([y.1.1] : List (List UInt8))) (
  (@Eq Int (RS.at_ y.1.2) (RS.at_ (cntS y.1.1 y.1.2 y.2))) ∧
  (@Eq Int (3 : Int) (RS.err (cntS y.1.1 y.1.2 y.2))) ∧
  True)) ∧
  (
  ((ilt (isub IntKind.i64 (llen y.1.1) (RS.at_ (uptoS y.1.1 y.1.2 y.2))) (uptoR y.1.1 y.1.2 y.2)) = false) →
  (
  ((Bool.not (ieq (RS.err (uptoS y.1.1 y.1.2 y.2)) (0 : Int))) = true) →
  (@Eq Int (0 : Int) (cntN y.1.1 y.1.2 y.2)) ∧
  Rfs (([y.1.1] : List (List UInt8))) (
  (@Eq Int (RS.at_ (uptoS y.1.1 y.1.2 y.2)) (RS.at_ (cntS y.1.1 y.1.2 y.2))) ∧
  (@Eq Int (RS.err (uptoS y.1.1 y.1.2 y.2)) (RS.err (cntS y.1.1 y.1.2 y.2))) ∧
  True)) ∧
  (
  ((Bool.not (ieq (RS.err (uptoS y.1.1 y.1.2 y.2)) (0 : Int))) = false) →
  (@Eq Int (uptoR y.1.1 y.1.2 y.2) (cntN y.1.1 y.1.2 y.2)) ∧
  Rfs (([y.1.1] : List (List UInt8))) (
  (@Eq Int (RS.at_ (uptoS y.1.1 y.1.2 y.2)) (RS.at_ (cntS y.1.1 y.1.2 y.2))) ∧
  (@Eq Int (RS.err (uptoS y.1.1 y.1.2 y.2)) (RS.err (cntS y.1.1 y.1.2 y.2))) ∧
  True))))))) ∧
  (
  ((ieq (RS.err (uptoS y.1.1 y.1.2 y.2)) (0 : Int)) = false) →
  Rfs (([RS.err (uptoS y.1.1 y.1.2 y.2)] : List Int)) (
  (
  ((Bool.not (ieq (RS.err (uptoS y.1.1 y.1.2 y.2)) (0 : Int))) = true) →
  (@Eq Int (0 : Int) (cntN y.1.1 y.1.2 y.2)) ∧
  Rfs (([y.1.1] : List (List UInt8))) (
  (@Eq Int (RS.at_ (uptoS y.1.1 y.1.2 y.2)) (RS.at_ (cntS y.1.1 y.1.2 y.2))) ∧
  (@Eq Int (RS.err (uptoS y.1.1 y.1.2 y.2)) (RS.err (cntS y.1.1 y.1.2 y.2))) ∧
  True)) ∧
  (
  ((Bool.not (ieq (RS.err (uptoS y.1.1 y.1.2 y.2)) (0 : Int))) = false) →
  (@Eq Int (uptoR y.1.1 y.1.2 y.2) (cntN y.1.1 y.1.2 y.2)) ∧
  Rfs (([y.1.1] : List (List UInt8))) (
  (@Eq Int (RS.at_ (uptoS y.1.1 y.1.2 y.2)) (RS.at_ (cntS y.1.1 y.1.2 y.2))) ∧
  (@Eq Int (RS.err (uptoS y.1.1 y.1.2 y.2)) (RS.err (cntS y.1.1 y.1.2 y.2))) ∧
  True)))))))
theorem ritemsV_eq : ∀ y, ritemsVC y = ritemsV y := fun y => by kernel_rfl
end Go.Proofs.YtacolbfofamocaaGreat.sx
/- Readers' places, threads, rows of threads: the contracts hold. -/
namespace Go.Proofs.YtacolbfofamocaaGreat.sx
open Go Go.RowKit
set_option maxRecDepth 100000
theorem sN_ok {l : By} {s : RS} (h : RdOk (l, s)) : ∀ n, RdOk (l, sN l s n)
  | 0 => h
  | n + 1 => (numS_ok (sN_ok h n)).1
theorem capR_eq {l : By} {s : RS} (h : RdOk (l, s)) (n : Nat) : isub IntKind.i64 (numR l (sN l s n)) (1 : Int) = capR l s n := by
  obtain ⟨_, h1, h2, _⟩ := numS_ok (sN_ok h n)
  exact isub64 (by omega) (by omega)
theorem capsS_ok {l : By} {s : RS} (h : RdOk (l, s)) : RdOk (l, capsS l s) := sN_ok h 10
theorem thrS_ok {l : By} {s : RS} (h : RdOk (l, s)) : RdOk (l, thrS l s) := capsS_ok (numS_ok h).1
theorem cntS_ok {l : By} {s : RS} {m : Int} (h : RdOk (l, s)) : RdOk (l, cntS l s m) := by
  obtain ⟨h1, _⟩ := uptoS_ok (m := m) h
  unfold cntS
  split
  · exact h
  · exact h1
section
variable {α : Type} {one : RS → α} {nxt : RS → RS} {s : RS}
theorem itN_of {n i : Nat} (hi : i ≤ n) (ho : okI nxt s i) (he : i = n ∨ (itS nxt s i).err ≠ 0) : itN nxt s n = i := by
  induction n generalizing i with
  | zero => have : i = 0 := by omega
            subst this; rfl
  | succ n ih =>
    have e : itN nxt s (n + 1) = if itN nxt s n = n ∧ (itS nxt s n).err = 0 then n + 1 else itN nxt s n := rfl
    by_cases h : i = n + 1
    · subst h
      rw [e, if_pos ⟨ih (Nat.le_refl _) (fun j hj => ho j (by omega)) (.inl rfl), ho n (by omega)⟩]
    · have he2 : (itS nxt s i).err ≠ 0 := he.resolve_left h
      have h2 := ih (i := i) (by omega) ho (.inr he2)
      rw [e, h2, if_neg]
      rintro ⟨h3, h4⟩
      rw [h3] at he2
      exact he2 h4
theorem itL_succ (i : Nat) : itL one nxt s (i + 1) = itL one nxt s i ++ [one (itS nxt s i)] := by
  unfold itL
  rw [List.range_succ, List.map_append]
  rfl
theorem itL_len (i : Nat) : (itL one nxt s i).length = i := by unfold itL; simp
theorem itS_ok {l : By} (hn : ∀ s, RdOk (l, s) → RdOk (l, nxt s)) (h : RdOk (l, s)) : ∀ i, RdOk (l, itS nxt s i)
  | 0 => h
  | i + 1 => hn _ (itS_ok hn h i)
theorem okI_succ {i : Nat} (h : okI nxt s i) (h2 : (itS nxt s i).err = 0) : okI nxt s (i + 1) := fun j hj => by
  by_cases e : j = i
  · rw [e]; exact h2
  · exact h j (by omega)
end
theorem capsRH (y : By × RS) (hy : capsRC.pre y) : capsRVC y := by
  have h : RdOk (y.1, y.2) := hy
  unfold capsRVC
  simp only [Rfs_eq, and_true]
  exact ⟨⟨sN_ok h 0⟩, ⟨sN_ok h 1⟩, ⟨sN_ok h 2⟩, ⟨sN_ok h 3⟩, ⟨sN_ok h 4⟩, ⟨sN_ok h 5⟩, ⟨sN_ok h 6⟩, ⟨sN_ok h 7⟩, ⟨sN_ok h 8⟩, ⟨sN_ok h 9⟩, capR_eq h 0, capR_eq h 1, capR_eq h 2, capR_eq h 3, capR_eq h 4, capR_eq h 5, capR_eq h 6, capR_eq h 7, capR_eq h 8, capR_eq h 9, rfl, rfl⟩
theorem capsROk : Ok capsRC := okOf (tab := [numRC]) (fn := Tryz.f62) (orc := capsRO) (by simp; exact numROk) (by kernel_rfl) (by kernel_rfl) (fun _ => by exact Nat.le_of_ble_eq_true (by kernel_rfl)) fun y hy => Eq.mp (capsRV_eq y) (capsRH y hy)
theorem rcapsRH (y : By × RS) (hy : rcapsRC.pre y) : rcapsRVC y := by
  have h : RdOk (y.1, y.2) := hy
  unfold rcapsRVC
  simp only [Rfs_eq, and_true]
  exact ⟨⟨sN_ok h 0⟩, ⟨sN_ok h 1⟩, ⟨sN_ok h 2⟩, ⟨sN_ok h 3⟩, ⟨sN_ok h 4⟩, ⟨sN_ok h 5⟩, ⟨sN_ok h 6⟩, ⟨sN_ok h 7⟩, ⟨sN_ok h 8⟩, ⟨sN_ok h 9⟩, capR_eq h 0, capR_eq h 1, capR_eq h 2, capR_eq h 3, capR_eq h 4, capR_eq h 5, capR_eq h 6, capR_eq h 7, capR_eq h 8, capR_eq h 9, rfl, rfl⟩
theorem rcapsROk : Ok rcapsRC := okOf (tab := [rnumRC]) (fn := Tryz.f67) (orc := rcapsRO) (by simp; exact rnumROk) (by kernel_rfl) (by kernel_rfl) (fun _ => by exact Nat.le_of_ble_eq_true (by kernel_rfl)) fun y hy => Eq.mp (rcapsRV_eq y) (rcapsRH y hy)
theorem thrRH (y : By × RS) (hy : thrRC.pre y) : thrRVC y := by
  have h : RdOk (y.1, y.2) := hy
  unfold thrRVC
  simp only [Rfs_eq, and_true]
  exact ⟨⟨h⟩, ⟨(numS_ok h).1⟩, rfl, rfl⟩
theorem thrROk : Ok thrRC := okOf (tab := [numRC, capsRC]) (fn := Tryz.f64) (orc := thrRO) (by simp; exact ⟨numROk, capsROk⟩) (by kernel_rfl) (by kernel_rfl) (fun _ => by exact Nat.le_of_ble_eq_true (by kernel_rfl)) fun y hy => Eq.mp (thrRV_eq y) (thrRH y hy)
theorem ritemsH (y : (By × RS) × Int) (hy : ritemsC.pre y) : ritemsVC y := by
  obtain ⟨⟨l, s⟩, m⟩ := y
  have ha : RdOk (l, s) := hy
  obtain ⟨⟨g1, g2, g3⟩, h2, h3, h4, _⟩ := uptoS_ok (m := m) ha
  simp only at g1 g2 g3
  unfold ritemsVC
  have hs : isub IntKind.i64 (l.length : Int) (uptoS l s m).at_ = (l.length : Int) - (uptoS l s m).at_ := isub64 (by omega) (by omega)
  simp only [Rfs_eq, and_true, ieq_t, ieq_f, ilt_t, ilt_f, llen_eq, hs, Bool.not_eq_true', Bool.not_eq_false']
  refine ⟨⟨ha⟩, ?_⟩
  repeat' first
    | exact ⟨trivial⟩
    | (intro _)
    | (refine And.intro ?_ ?_)
  all_goals ((try unfold cntN); unfold cntS; repeat' split)
  all_goals first
    | rfl
    | (exfalso; omega)
    | (simp_all; done)
theorem ritemsOk : Ok ritemsC := okOf (tab := [ruptoRC]) (fn := Tryz.f66) (orc := ritemsO) (by simp; exact ruptoROk) (by kernel_rfl) (by kernel_rfl) (fun _ => by exact Nat.le_of_ble_eq_true (by kernel_rfl)) fun y hy => Eq.mp (ritemsV_eq y) (ritemsH y hy)
theorem lthrRH (y : By × RS) (hy : lthrRC.pre y) : lthrRVC y := by
  obtain ⟨l, s⟩ := y
  have ha : RdOk (l, s) := hy
  obtain ⟨⟨g1, g2, g3⟩, h2, h3, h4, h5⟩ := uptoS_ok (m := 400) ha
  simp only at g1 g2 g3
  have hc := cntS_ok (m := 400) ha
  unfold lthrRVC
  have hs : isub IntKind.i64 (l.length : Int) (uptoS l s 400).at_ = (l.length : Int) - (uptoS l s 400).at_ := isub64 (by omega) (by omega)
  simp only [Rfs_eq, and_true, ieq_t, ieq_f, ilt_t, ilt_f, llen_eq, lcat_eq, hs, Bool.not_eq_true', Bool.not_eq_false', fits_t]
  refine ⟨⟨ha⟩, ⟨fun h6 => ⟨fun h7 => ⟨⟨trivial⟩, (), rfl, ?_, ?_, ⟨trivial⟩⟩, fun h7 => ⟨(), rfl, ?_, ?_, ⟨trivial⟩⟩⟩, fun h6 => ⟨(), rfl, ?_, ?_, ⟨trivial⟩⟩⟩, fun _ _ => ⟨⟨0, rfl, rfl, rfl, rfl, ⟨Nat.zero_le _, fun _ h => absurd h (by omega)⟩⟩, fun x hx => ?_⟩⟩
  · unfold cntS; rw [if_pos ⟨h6, h7⟩]
  · unfold cntS; rw [if_pos ⟨h6, h7⟩]
  · unfold cntS; rw [if_neg (fun h => by omega)]
  · unfold cntS; rw [if_neg (fun h => by omega)]
  · unfold cntS; rw [if_neg (fun h => h6 h.1)]
  · unfold cntS; rw [if_neg (fun h => h6 h.1)]
  · have hx1 := hx.out.1
    have hx2 := hx.out.2
    have hm : cntR l s 400 = uptoR l s 400 := rfl
    have hr := itS_ok (nxt := thrS l) (fun s h => thrS_ok h) hc x
    have hl : (itL (thrR l) (thrS l) (cntS l s 400) x).length = x := itL_len x
    refine ⟨fun h6 => ⟨fun h7 => ⟨⟨hr⟩, ?_, x + 1, ?_, ?_, rfl, rfl, ⟨⟨by omega, okI_succ hx2 h7⟩, by omega⟩⟩, fun h7 => ?_⟩, fun h6 => ?_⟩
    · rw [List.length_append, hl]
      simp only [List.length_cons, List.length_nil]
      omega
    · rw [itL_succ]; rfl
    · rw [iadd64 (by omega) (by omega)]; rfl
    · have hN : itN (thrS l) (cntS l s 400) (cntR l s 400).toNat = x := itN_of hx1 hx2 (.inr h7)
      unfold lthrR lthrS
      rw [hN]
      refine ⟨fun h8 => ?_, fun h8 => absurd h8 h7⟩
      rw [if_pos ⟨h8, rfl⟩]
      exact ⟨rfl, rfl, rfl⟩
    · have hN : itN (thrS l) (cntS l s 400) (cntR l s 400).toNat = x := itN_of hx1 hx2 (.inl (by omega))
      unfold lthrR lthrS
      rw [hN]
      refine ⟨fun h8 => ?_, fun h8 => ?_⟩
      · rw [if_pos ⟨h8, rfl⟩]
        exact ⟨rfl, rfl, rfl⟩
      · rw [if_neg (fun h => h.1 h8)]
        exact ⟨rfl, rfl, rfl⟩
theorem lthrROk : Ok lthrRC := okOf (tab := [uptoRC, wrongC, thrRC]) (fn := Tryz.f63) (orc := lthrRO) (by simp; exact ⟨uptoROk, wrongOk, thrROk⟩) (by kernel_rfl) (by kernel_rfl) (fun _ => by exact Nat.le_of_ble_eq_true (by kernel_rfl)) fun y hy => Eq.mp (lthrRV_eq y) (lthrRH y hy)
end Go.Proofs.YtacolbfofamocaaGreat.sx
/- Contracts of readers: lists, scans, streams. -/
namespace Go.Proofs.YtacolbfofamocaaGreat.sx
open Go Go.RowKit
noncomputable section
def lstS0 (l : By) (s : RS) : RS := capsS l (flagS l s)
def lstR (l : By) (p : Bool) (s : RS) : Lst := ⟨flagR l s, capR l (flagS l s) 0, capR l (flagS l s) 1, capR l (flagS l s) 2, capR l (flagS l s) 3, capR l (flagS l s) 4, capR l (flagS l s) 5, capR l (flagS l s) 6, capR l (flagS l s) 7, capR l (flagS l s) 8, capR l (flagS l s) 9, lthrR l (lstS0 l s) p⟩
def lstS (l : By) (s : RS) : RS := lthrS l (lstS0 l s)
def llstS (l : By) (s : RS) : RS := itS (lstS l) (cntS l s 8) (itN (lstS l) (cntS l s 8) (cntR l s 8).toNat)
def llstR (l : By) (s : RS) (p : Bool) : List Lst := if (llstS l s).err ≠ 0 ∧ p = false then [] else itL (lstR l p) (lstS l) (cntS l s 8) (itN (lstS l) (cntS l s 8) (cntR l s 8).toNat)
def scnS1 (l : By) (s : RS) : RS := textS l s 3
def scnS2 (l : By) (s : RS) : RS := numS l (scnS1 l s)
def scnR (l : By) (s : RS) (p : Bool) : Scn := ⟨textR l s 3, numR l (scnS1 l s), llstR l (scnS2 l s) p⟩
def scnS (l : By) (s : RS) : RS := llstS l (scnS2 l s)
def stmA (l : By) (s : RS) : RS := numS l (numS l s)
def stmB (l : By) (s : RS) : RS := flagS l (flagS l (stmA l s))
def stmC (l : By) (s : RS) : RS := numS l (numS l (stmB l s))
def stmD (l : By) (s : RS) : RS := llstS l (stmC l s)
def strmR (l : By) (s : RS) (p : Bool) : Strm := ⟨numR l s, numR l (numS l s), flagR l (stmA l s), flagR l (flagS l (stmA l s)), numR l (stmB l s), numR l (numS l (stmB l s)), llstR l (stmC l s) p, scnR l (stmD l s) p, scnR l (scnS l (stmD l s)) p, scnR l (scnS l (scnS l (stmD l s))) p⟩
def strmS (l : By) (s : RS) : RS := scnS l (scnS l (scnS l (stmD l s)))
def lstRC : Con D := { numRC with f := 61, res := fun y => .agg (encD 2 (lstR y.1 false y.2)), heap' := fun y => rdO y.1 (lstS y.1 y.2) }
def lstRO (_ : lstRC.Y) : Orc D := noO ()
def lstRV (y : lstRC.Y) : Prop := vcOf [flagRC, capsRC, lthrRC] Tryz.f61 lstRC lstRO y
def llstRC : Con D where
  f := 60
  Y := By × RS
  inp := fun args s => match args with
    | [p, _, _] => asR p s
    | _ => .fail
  pre := RdOk
  args := fun _ => [.ptr 0 0, .num .i64 8, .func (.func 61) [] []]
  heap := fun y => rdO y.1 y.2
  res := fun y => .list 2 (llstR y.1 y.2 false)
  heap' := fun y => rdO y.1 (llstS y.1 y.2)
  nx0 := 1
  nx1 := 1
def llstRO (y : llstRC.Y) : Orc D := ⟨[], [], [(506, { X := Nat, keep := [0, 2, 8], sl := fun i => [(9, .grow 2 (itL (lstR y.1 false) (lstS y.1) (cntS y.1 y.2 8) i) 1), (10, .int .i64 i)], kp := [], pc := fun i => rdO y.1 (itS (lstS y.1) (cntS y.1 y.2 8) i) ++ [(1, .tok 2 54)], nx := 2, inv := fun i => i ≤ (cntR y.1 y.2 8).toNat ∧ okI (lstS y.1) (cntS y.1 y.2 8) i, me := fun i => (cntR y.1 y.2 8).toNat - i })],
  [(15, { X := Unit, keep := [0, 2], sl := fun _ => [(8, .int .i64 (cntR y.1 y.2 8))], kp := [], pc := fun _ => rdO y.1 (cntS y.1 y.2 8), nx := 1, inv := fun _ => True, me := fun _ => 0 })], 1, []⟩
def llstRV (y : llstRC.Y) : Prop := vcOf [uptoRC, wrongC, lstRC] Tryz.f60 llstRC llstRO y
def glRC : Con D := { numRC with f := 33, res := fun y => .list 2 (llstR y.1 y.2 false), heap' := fun y => rdO y.1 (llstS y.1 y.2) }
def glRO (_ : glRC.Y) : Orc D := noO ()
def glRV (y : glRC.Y) : Prop := vcOf [llstRC] Tryz.f33 glRC glRO y
def scnRC : Con D := { numRC with f := 34, res := fun y => .agg (scnL (scnR y.1 y.2 false)), heap' := fun y => rdO y.1 (scnS y.1 y.2) }
def scnRO (_ : scnRC.Y) : Orc D := noO ()
def scnRV (y : scnRC.Y) : Prop := vcOf [textRC, numRC, glRC] Tryz.f34 scnRC scnRO y
def strmRC : Con D := { numRC with f := 13, res := fun y => .agg (strmL (strmR y.1 y.2 false)), heap' := fun y => rdO y.1 (strmS y.1 y.2) }
def strmRO (_ : strmRC.Y) : Orc D := noO ()
def strmRV (y : strmRC.Y) : Prop := vcOf [numRC, flagRC, glRC, scnRC] Tryz.f13 strmRC strmRO y
end
end Go.Proofs.YtacolbfofamocaaGreat.sx
/- Conditions, as a tool printed them; that they are the functions' own the kernel computes. -/
namespace Go.Proofs.YtacolbfofamocaaGreat.sx
open Go Go.RowKit
def lstRVC (y : Prod (List UInt8) RS) : Prop :=
 (Iv (RdOk (y.1, y.2))) ∧
 Rfs (([y.1] : List (List UInt8))) (
  Rfs (([RS.at_ y.2, RS.err y.2] : List Int)) (
  (Iv (RdOk (y.1, flagS y.1 y.2))) ∧
  Rfs (([y.1] : List (List UInt8))) (
  Rfs (([RS.at_ (flagS y.1 y.2), RS.err (flagS y.1 y.2)] : List Int)) (
  (Iv (RdOk (y.1, capsS y.1 (flagS y.1 y.2)))) ∧
  Rfs (([y.1] : List (List UInt8))) (
  Rfs (([RS.at_ (capsS y.1 (flagS y.1 y.2)), RS.err (capsS y.1 (flagS y.1 y.2))] : List Int)) (
  Rfs (([flagR y.1 y.2] : List Bool)) (
  Rfs (([capR y.1 (flagS y.1 y.2) 0, capR y.1 (flagS y.1 y.2) 1, capR y.1 (flagS y.1 y.2) 2, capR y.1 (flagS y.1 y.2) 3, capR y.1 (flagS y.1 y.2) 4, capR y.1 (flagS y.1 y.2) 5, capR y.1 (flagS y.1 y.2) 6, capR y.1 (flagS y.1 y.2) 7, capR y.1 (flagS y.1 y.2) 8, capR y.1 (flagS y.1 y.2) 9] : List Int)) (
  (@Eq (List Thread) (lthrR y.1 (capsS y.1 (flagS y.1 y.2)) Bool.false) (lthrR y.1 (lstS0 y.1 y.2) Bool.false)) ∧
  Rfs (([y.1] : List (List UInt8))) (
  (@Eq Int (RS.at_ (lthrS y.1 (capsS y.1 (flagS y.1 y.2)))) (RS.at_ (lstS y.1 y.2))) ∧
  (@Eq Int (RS.err (lthrS y.1 (capsS y.1 (flagS y.1 y.2)))) (RS.err (lstS y.1 y.2))) ∧
  True)))))))))
theorem lstRV_eq : ∀ y, lstRVC y = lstRV y := fun y => by kernel_rfl
def llstRVC (y : Prod (List UInt8) RS) : Prop :=
 (Iv (RdOk (y.1, y.2))) ∧
 Rfs (([(8 : Int)] : List Int)) (
  Rfs (([y.1] : List (List UInt8))) (
  Rfs (([RS.at_ y.2, RS.err y.2] : List Int)) (
  (
  (
  ((ieq (RS.err (uptoS y.1 y.2 (8 : Int))) (0 : Int)) = true) →
  Rfs (([RS.err (uptoS y.1 y.2 (8 : Int))] : List Int)) (
  Rfs (([y.1] : List (List UInt8))) (
  Rfs (([RS.at_ (uptoS y.1 y.2 (8 : Int))] : List Int)) (
  (
  ((ilt (isub IntKind.i64 (llen y.1) (RS.at_ (uptoS y.1 y.2 (8 : Int)))) (uptoR y.1 y.2 (8 : Int))) = true) →
  (Iv True) ∧
  Rfs (([RS.at_ y.2, (3 : Int)] : List Int)) (
  Rfs (([y.1] : List (List UInt8))) (
  Rfs (([RS.at_ (uptoS y.1 y.2 (8 : Int)), RS.err (uptoS y.1 y.2 (8 : Int))] : List Int)) (
  ∃ _z : Unit,
  (@Eq Int (uptoR y.1 y.2 (8 : Int)) (cntR y.1 y.2 (8 : Int))) ∧
  Rfs (([y.1] : List (List UInt8))) (
  (@Eq Int (RS.at_ y.2) (RS.at_ (cntS y.1 y.2 (8 : Int)))) ∧
  (@Eq Int (3 : Int) (RS.err (cntS y.1 y.2 (8 : Int)))) ∧
  (Iv True)))))) ∧
  (
  ((ilt (isub IntKind.i64 (llen y.1) (RS.at_ (uptoS y.1 y.2 (8 : Int)))) (uptoR y.1 y.2 (8 : Int))) = false) →
  ∃ _z : Unit,
  (@Eq Int (uptoR y.1 y.2 (8 : Int)) (cntR y.1 y.2 (8 : Int))) ∧
  Rfs (([y.1] : List (List UInt8))) (
  (@Eq Int (RS.at_ (uptoS y.1 y.2 (8 : Int))) (RS.at_ (cntS y.1 y.2 (8 : Int)))) ∧
  (@Eq Int (RS.err (uptoS y.1 y.2 (8 : Int))) (RS.err (cntS y.1 y.2 (8 : Int)))) ∧
  (Iv True))))))) ∧
  (
  ((ieq (RS.err (uptoS y.1 y.2 (8 : Int))) (0 : Int)) = false) →
  Rfs (([RS.err (uptoS y.1 y.2 (8 : Int))] : List Int)) (
  ∃ _z : Unit,
  (@Eq Int (uptoR y.1 y.2 (8 : Int)) (cntR y.1 y.2 (8 : Int))) ∧
  Rfs (([y.1] : List (List UInt8))) (
  (@Eq Int (RS.at_ (uptoS y.1 y.2 (8 : Int))) (RS.at_ (cntS y.1 y.2 (8 : Int)))) ∧
  (@Eq Int (RS.err (uptoS y.1 y.2 (8 : Int))) (RS.err (cntS y.1 y.2 (8 : Int)))) ∧
  (Iv True))))) ∧
  (
  ∀ _x : Unit,
  (Iv True) →
  (
  ∃ z : Nat,
  Rfs (([cntR y.1 y.2 (8 : Int)] : List Int)) (
  (@Eq (List Lst) ([] : List Lst) (itL (lstR y.1 Bool.false) (lstS y.1) (cntS y.1 y.2 (8 : Int)) z)) ∧
  (@Eq Int (0 : Int) ((z : Nat) : Int)) ∧
  Rfs (([y.1] : List (List UInt8))) (
  (@Eq Int (RS.at_ (cntS y.1 y.2 (8 : Int))) (RS.at_ (itS (lstS y.1) (cntS y.1 y.2 (8 : Int)) z))) ∧
  (@Eq Int (RS.err (cntS y.1 y.2 (8 : Int))) (RS.err (itS (lstS y.1) (cntS y.1 y.2 (8 : Int)) z))) ∧
  (Iv (((z : Nat) ≤ (Int.toNat (cntR y.1 y.2 (8 : Int)))) ∧ okI (lstS y.1) (cntS y.1 y.2 (8 : Int)) z))))) ∧
  (
  ∀ x1 : Nat,
  (Iv (((x1 : Nat) ≤ (Int.toNat (cntR y.1 y.2 (8 : Int)))) ∧ okI (lstS y.1) (cntS y.1 y.2 (8 : Int)) x1)) →
  (
  ((ilt ((x1 : Nat) : Int) (cntR y.1 y.2 (8 : Int))) = true) →
  (
  ((ieq (RS.err (itS (lstS y.1) (cntS y.1 y.2 (8 : Int)) x1)) (0 : Int)) = true) →
  (Iv (RdOk (y.1, itS (lstS y.1) (cntS y.1 y.2 (8 : Int)) x1))) ∧
  Rfs (([y.1] : List (List UInt8))) (
  Rfs (([RS.at_ (itS (lstS y.1) (cntS y.1 y.2 (8 : Int)) x1), RS.err (itS (lstS y.1) (cntS y.1 y.2 (8 : Int)) x1)] : List Int)) (
  ((fits (llen (lcat (itL (lstR y.1 Bool.false) (lstS y.1) (cntS y.1 y.2 (8 : Int)) x1) ((Lst.mk (flagR y.1 (itS (lstS y.1) (cntS y.1 y.2 (8 : Int)) x1)) (capR y.1 (flagS y.1 (itS (lstS y.1) (cntS y.1 y.2 (8 : Int)) x1)) 0) (capR y.1 (flagS y.1 (itS (lstS y.1) (cntS y.1 y.2 (8 : Int)) x1)) 1) (capR y.1 (flagS y.1 (itS (lstS y.1) (cntS y.1 y.2 (8 : Int)) x1)) 2) (capR y.1 (flagS y.1 (itS (lstS y.1) (cntS y.1 y.2 (8 : Int)) x1)) 3) (capR y.1 (flagS y.1 (itS (lstS y.1) (cntS y.1 y.2 (8 : Int)) x1)) 4) (capR y.1 (flagS y.1 (itS (lstS y.1) (cntS y.1 y.2 (8 : Int)) x1)) 5) (capR y.1 (flagS y.1 (itS (lstS y.1) (cntS y.1 y.2 (8 : Int)) x1)) 6) (capR y.1 (flagS y.1 (itS (lstS y.1) (cntS y.1 y.2 (8 : Int)) x1)) 7) (capR y.1 (flagS y.1 (itS (lstS y.1) (cntS y.1 y.2 (8 : Int)) x1)) 8) (capR y.1 (flagS y.1 (itS (lstS y.1) (cntS y.1 y.2 (8 : Int)) x1)) 9) (lthrR y.1 (lstS0 y.1 (itS (lstS y.1) (cntS y.1 y.2 (8 : Int)) x1)) Bool.false)) :: ([] : List Lst)))) 112) = true) ∧
  ∃ z : Nat,
  Rfs (([cntR y.1 y.2 (8 : Int)] : List Int)) (
  (@Eq (List Lst) (lcat (itL (lstR y.1 Bool.false) (lstS y.1) (cntS y.1 y.2 (8 : Int)) x1) ((Lst.mk (flagR y.1 (itS (lstS y.1) (cntS y.1 y.2 (8 : Int)) x1)) (capR y.1 (flagS y.1 (itS (lstS y.1) (cntS y.1 y.2 (8 : Int)) x1)) 0) (capR y.1 (flagS y.1 (itS (lstS y.1) (cntS y.1 y.2 (8 : Int)) x1)) 1) (capR y.1 (flagS y.1 (itS (lstS y.1) (cntS y.1 y.2 (8 : Int)) x1)) 2) (capR y.1 (flagS y.1 (itS (lstS y.1) (cntS y.1 y.2 (8 : Int)) x1)) 3) (capR y.1 (flagS y.1 (itS (lstS y.1) (cntS y.1 y.2 (8 : Int)) x1)) 4) (capR y.1 (flagS y.1 (itS (lstS y.1) (cntS y.1 y.2 (8 : Int)) x1)) 5) (capR y.1 (flagS y.1 (itS (lstS y.1) (cntS y.1 y.2 (8 : Int)) x1)) 6) (capR y.1 (flagS y.1 (itS (lstS y.1) (cntS y.1 y.2 (8 : Int)) x1)) 7) (capR y.1 (flagS y.1 (itS (lstS y.1) (cntS y.1 y.2 (8 : Int)) x1)) 8) (capR y.1 (flagS y.1 (itS (lstS y.1) (cntS y.1 y.2 (8 : Int)) x1)) 9) (lthrR y.1 (lstS0 y.1 (itS (lstS y.1) (cntS y.1 y.2 (8 : Int)) x1)) Bool.false)) :: ([] : List Lst))) (itL (lstR y.1 Bool.false) (lstS y.1) (cntS y.1 y.2 (8 : Int)) z)) ∧
  (@Eq Int (iadd IntKind.i64 ((x1 : Nat) : Int) (1 : Int)) ((z : Nat) : Int)) ∧
  Rfs (([y.1] : List (List UInt8))) (
  (@Eq Int (RS.at_ (lstS y.1 (itS (lstS y.1) (cntS y.1 y.2 (8 : Int)) x1))) (RS.at_ (itS (lstS y.1) (cntS y.1 y.2 (8 : Int)) z))) ∧
  (@Eq Int (RS.err (lstS y.1 (itS (lstS y.1) (cntS y.1 y.2 (8 : Int)) x1))) (RS.err (itS (lstS y.1) (cntS y.1 y.2 (8 : Int)) z))) ∧
  (Iv ((((z : Nat) ≤ (Int.toNat (cntR y.1 y.2 (8 : Int)))) ∧ okI (lstS y.1) (cntS y.1 y.2 (8 : Int)) z) ∧ ((Int.toNat (cntR y.1 y.2 (8 : Int)) : Nat) - z : Nat) < ((Int.toNat (cntR y.1 y.2 (8 : Int)) : Nat) - x1)))))))) ∧
  (
  ((ieq (RS.err (itS (lstS y.1) (cntS y.1 y.2 (8 : Int)) x1)) (0 : Int)) = false) →
  (
  ((Bool.not (ieq (RS.err (itS (lstS y.1) (cntS y.1 y.2 (8 : Int)) x1)) (0 : Int))) = true) →
  (@Eq (List Lst) ([] : List Lst) (llstR y.1 y.2 Bool.false)) ∧
  Rfs (([y.1] : List (List UInt8))) (
  (@Eq Int (RS.at_ (itS (lstS y.1) (cntS y.1 y.2 (8 : Int)) x1)) (RS.at_ (llstS y.1 y.2))) ∧
  (@Eq Int (RS.err (itS (lstS y.1) (cntS y.1 y.2 (8 : Int)) x1)) (RS.err (llstS y.1 y.2))) ∧
  True)) ∧
  (
  ((Bool.not (ieq (RS.err (itS (lstS y.1) (cntS y.1 y.2 (8 : Int)) x1)) (0 : Int))) = false) →
  (@Eq (List Lst) (itL (lstR y.1 Bool.false) (lstS y.1) (cntS y.1 y.2 (8 : Int)) x1) (llstR y.1 y.2 Bool.false)) ∧
  Rfs (([y.1] : List (List UInt8))) (
  (@Eq Int (RS.at_ (itS (lstS y.1) (cntS y.1 y.2 (8 : Int)) x1)) (RS.at_ (llstS y.1 y.2))) ∧
  (@Eq Int (RS.err (itS (lstS y.1) (cntS y.1 y.2 (8 : Int)) x1)) (RS.err (llstS y.1 y.2))) ∧
  True)))) ∧
  (
  ((ilt ((x1 : Nat) : Int) (cntR y.1 y.2 (8 : Int))) = false) →
  (
  ((Bool.not (ieq (RS.err (itS (lstS y.1) (cntS y.1 y.2 (8 : Int)) x1)) (0 : Int))) = true) →
  (@Eq (List Lst) ([] : List Lst) (llstR y.1 y.2 Bool.false)) ∧
  Rfs (([y.1] : List (List UInt8))) (
  (@Eq Int (RS.at_ (itS (lstS y.1) (cntS y.1 y.2 (8 : Int)) x1)) (RS.at_ (llstS y.1 y.2))) ∧
  (@Eq Int (RS.err (itS (lstS y.1) (cntS y.1 y.2 (8 : Int)) x1)) (RS.err (llstS y.1 y.2))) ∧
  True)) ∧
  (
  ((Bool.not (ieq (RS.err (itS (lstS y.1) (cntS y.1 y.2 (8 : Int)) x1)) (0 : Int))) = false) →
  (@Eq (List Lst) (itL (lstR y.1 Bool.false) (lstS y.1) (cntS y.1 y.2 (8 : Int)) x1) (llstR y.1 y.2 Bool.false)) ∧
  Rfs (([y.1] : List (List UInt8))) (
  (@Eq Int (RS.at_ (itS (lstS y.1) (cntS y.1 y.2 (8 : Int)) x1)) (RS.at_ (llstS y.1 y.2))) ∧
  (@Eq Int (RS.err (itS (lstS y.1) (cntS y.1 y.2 (8 : Int)) x1)) (RS.err (llstS y.1 y.2))) ∧
  True))))))))
theorem llstRV_eq : ∀ y, llstRVC y = llstRV y := fun y => by kernel_rfl
def glRVC (y : Prod (List UInt8) RS) : Prop :=
 (Iv (RdOk (y.1, y.2))) ∧
 Rfs (([y.1] : List (List UInt8))) (
  Rfs (([RS.at_ y.2, RS.err y.2] : List Int)) (
  Rfs (([llstR y.1 y.2 Bool.false] : List (List Lst))) (
  Rfs (([y.1] : List (List UInt8))) (
  Rfs (([RS.at_ (llstS y.1 y.2), RS.err (llstS y.1 y.2)] : List Int)) (
  True)))))
theorem glRV_eq : ∀ y, glRVC y = glRV y := fun y => by kernel_rfl
def scnRVC (y : Prod (List UInt8) RS) : Prop :=
 (Iv (RdOk (y.1, y.2))) ∧
 Rfs (([(3 : Int)] : List Int)) (
  Rfs (([y.1] : List (List UInt8))) (
  Rfs (([RS.at_ y.2, RS.err y.2] : List Int)) (
  (Iv (RdOk (y.1, textS y.1 y.2 (3 : Int)))) ∧
  Rfs (([y.1] : List (List UInt8))) (
  Rfs (([RS.at_ (textS y.1 y.2 (3 : Int)), RS.err (textS y.1 y.2 (3 : Int))] : List Int)) (
  (Iv (RdOk (y.1, numS y.1 (textS y.1 y.2 (3 : Int))))) ∧
  Rfs (([y.1] : List (List UInt8))) (
  Rfs (([RS.at_ (numS y.1 (textS y.1 y.2 (3 : Int))), RS.err (numS y.1 (textS y.1 y.2 (3 : Int)))] : List Int)) (
  Rfs (([textR y.1 y.2 (3 : Int)] : List (List UInt8))) (
  (@Eq Int (numR y.1 (textS y.1 y.2 (3 : Int))) (numR y.1 (scnS1 y.1 y.2))) ∧
  (@Eq (List Lst) (llstR y.1 (numS y.1 (textS y.1 y.2 (3 : Int))) Bool.false) (llstR y.1 (scnS2 y.1 y.2) Bool.false)) ∧
  Rfs (([y.1] : List (List UInt8))) (
  (@Eq Int (RS.at_ (llstS y.1 (numS y.1 (textS y.1 y.2 (3 : Int))))) (RS.at_ (scnS y.1 y.2))) ∧
  (@Eq Int (RS.err (llstS y.1 (numS y.1 (textS y.1 y.2 (3 : Int))))) (RS.err (scnS y.1 y.2))) ∧
  True)))))))))
theorem scnRV_eq : ∀ y, scnRVC y = scnRV y := fun y => by kernel_rfl
def strmRVC (y : Prod (List UInt8) RS) : Prop :=
 (Iv (RdOk (y.1, y.2))) ∧
 Rfs (([y.1] : List (List UInt8))) (
  Rfs (([RS.at_ y.2, RS.err y.2] : List Int)) (
  (Iv (RdOk (y.1, numS y.1 y.2))) ∧
  Rfs (([y.1] : List (List UInt8))) (
  Rfs (([RS.at_ (numS y.1 y.2), RS.err (numS y.1 y.2)] : List Int)) (
  (Iv (RdOk (y.1, numS y.1 (numS y.1 y.2)))) ∧
  Rfs (([y.1] : List (List UInt8))) (
  Rfs (([RS.at_ (numS y.1 (numS y.1 y.2)), RS.err (numS y.1 (numS y.1 y.2))] : List Int)) (
  (Iv (RdOk (y.1, flagS y.1 (numS y.1 (numS y.1 y.2))))) ∧
  Rfs (([y.1] : List (List UInt8))) (
  Rfs (([RS.at_ (flagS y.1 (numS y.1 (numS y.1 y.2))), RS.err (flagS y.1 (numS y.1 (numS y.1 y.2)))] : List Int)) (
  (Iv (RdOk (y.1, flagS y.1 (flagS y.1 (numS y.1 (numS y.1 y.2)))))) ∧
  Rfs (([y.1] : List (List UInt8))) (
  Rfs (([RS.at_ (flagS y.1 (flagS y.1 (numS y.1 (numS y.1 y.2)))), RS.err (flagS y.1 (flagS y.1 (numS y.1 (numS y.1 y.2))))] : List Int)) (
  (Iv (RdOk (y.1, numS y.1 (flagS y.1 (flagS y.1 (numS y.1 (numS y.1 y.2))))))) ∧
  Rfs (([y.1] : List (List UInt8))) (
  Rfs (([RS.at_ (numS y.1 (flagS y.1 (flagS y.1 (numS y.1 (numS y.1 y.2))))), RS.err (numS y.1 (flagS y.1 (flagS y.1 (numS y.1 (numS y.1 y.2)))))] : List Int)) (
  (Iv (RdOk (y.1, numS y.1 (numS y.1 (flagS y.1 (flagS y.1 (numS y.1 (numS y.1 y.2)))))))) ∧
  Rfs (([y.1] : List (List UInt8))) (
  Rfs (([RS.at_ (numS y.1 (numS y.1 (flagS y.1 (flagS y.1 (numS y.1 (numS y.1 y.2)))))), RS.err (numS y.1 (numS y.1 (flagS y.1 (flagS y.1 (numS y.1 (numS y.1 y.2))))))] : List Int)) (
  (Iv (RdOk (y.1, llstS y.1 (numS y.1 (numS y.1 (flagS y.1 (flagS y.1 (numS y.1 (numS y.1 y.2))))))))) ∧
  Rfs (([y.1] : List (List UInt8))) (
  Rfs (([RS.at_ (llstS y.1 (numS y.1 (numS y.1 (flagS y.1 (flagS y.1 (numS y.1 (numS y.1 y.2))))))), RS.err (llstS y.1 (numS y.1 (numS y.1 (flagS y.1 (flagS y.1 (numS y.1 (numS y.1 y.2)))))))] : List Int)) (
  (Iv (RdOk (y.1, scnS y.1 (llstS y.1 (numS y.1 (numS y.1 (flagS y.1 (flagS y.1 (numS y.1 (numS y.1 y.2)))))))))) ∧
  Rfs (([y.1] : List (List UInt8))) (
  Rfs (([RS.at_ (scnS y.1 (llstS y.1 (numS y.1 (numS y.1 (flagS y.1 (flagS y.1 (numS y.1 (numS y.1 y.2)))))))), RS.err (scnS y.1 (llstS y.1 (numS y.1 (numS y.1 (flagS y.1 (flagS y.1 (numS y.1 (numS y.1 y.2))))))))] : List Int)) (
  (Iv (RdOk (y.1, scnS y.1 (scnS y.1 (llstS y.1 (numS y.1 (numS y.1 (flagS y.1 (flagS y.1 (numS y.1 (numS y.1 y.2))))))))))) ∧
  Rfs (([y.1] : List (List UInt8))) (
  Rfs (([RS.at_ (scnS y.1 (scnS y.1 (llstS y.1 (numS y.1 (numS y.1 (flagS y.1 (flagS y.1 (numS y.1 (numS y.1 y.2))))))))), RS.err (scnS y.1 (scnS y.1 (llstS y.1 (numS y.1 (numS y.1 (flagS y.1 (flagS y.1 (numS y.1 (numS y.1 y.2))))))))), numR y.1 y.2, numR y.1 (numS y.1 y.2)] : List Int)) (
  (@Eq Bool (flagR y.1 (numS y.1 (numS y.1 y.2))) (flagR y.1 (stmA y.1 y.2))) ∧
  (@Eq Bool (flagR y.1 (flagS y.1 (numS y.1 (numS y.1 y.2)))) (flagR y.1 (flagS y.1 (stmA y.1 y.2)))) ∧
  (@Eq Int (numR y.1 (flagS y.1 (flagS y.1 (numS y.1 (numS y.1 y.2))))) (numR y.1 (stmB y.1 y.2))) ∧
  (@Eq Int (numR y.1 (numS y.1 (flagS y.1 (flagS y.1 (numS y.1 (numS y.1 y.2)))))) (numR y.1 (numS y.1 (stmB y.1 y.2)))) ∧
  (@Eq (List Lst) (llstR y.1 (numS y.1 (numS y.1 (flagS y.1 (flagS y.1 (numS y.1 (numS y.1 y.2)))))) Bool.false) (llstR y.1 (numS y.1 (numS y.1 (stmB y.1 y.2))) Bool.false)) ∧
  (@Eq (List UInt8) (textR y.1 (llstS y.1 (numS y.1 (numS y.1 (flagS y.1 (flagS y.1 (numS y.1 (numS y.1 y.2))))))) (3 : Int)) (textR y.1 (stmD y.1 y.2) (3 : Int))) ∧
  (@Eq Int (numR y.1 (scnS1 y.1 (llstS y.1 (numS y.1 (numS y.1 (flagS y.1 (flagS y.1 (numS y.1 (numS y.1 y.2))))))))) (numR y.1 (scnS1 y.1 (stmD y.1 y.2)))) ∧
  (@Eq (List Lst) (llstR y.1 (scnS2 y.1 (llstS y.1 (numS y.1 (numS y.1 (flagS y.1 (flagS y.1 (numS y.1 (numS y.1 y.2)))))))) Bool.false) (llstR y.1 (scnS2 y.1 (stmD y.1 y.2)) Bool.false)) ∧
  (@Eq (List UInt8) (textR y.1 (scnS y.1 (llstS y.1 (numS y.1 (numS y.1 (flagS y.1 (flagS y.1 (numS y.1 (numS y.1 y.2)))))))) (3 : Int)) (textR y.1 (scnS y.1 (stmD y.1 y.2)) (3 : Int))) ∧
  (@Eq Int (numR y.1 (scnS1 y.1 (scnS y.1 (llstS y.1 (numS y.1 (numS y.1 (flagS y.1 (flagS y.1 (numS y.1 (numS y.1 y.2)))))))))) (numR y.1 (scnS1 y.1 (scnS y.1 (stmD y.1 y.2))))) ∧
  (@Eq (List Lst) (llstR y.1 (scnS2 y.1 (scnS y.1 (llstS y.1 (numS y.1 (numS y.1 (flagS y.1 (flagS y.1 (numS y.1 (numS y.1 y.2))))))))) Bool.false) (llstR y.1 (scnS2 y.1 (scnS y.1 (stmD y.1 y.2))) Bool.false)) ∧
  (@Eq (List UInt8) (textR y.1 (scnS y.1 (scnS y.1 (llstS y.1 (numS y.1 (numS y.1 (flagS y.1 (flagS y.1 (numS y.1 (numS y.1 y.2))))))))) (3 : Int)) (textR y.1 (scnS y.1 (scnS y.1 (stmD y.1 y.2))) (3 : Int))) ∧
  (@Eq Int (numR y.1 (scnS1 y.1 (scnS y.1 (scnS y.1 (llstS y.1 (numS y.1 (numS y.1 (flagS y.1 (flagS y.1 (numS y.1 (numS y.1 y.2))))))))))) (numR y.1 (scnS1 y.1 (scnS y.1 (scnS y.1 (stmD y.1 y.2)))))) ∧
  (@Eq (List Lst) (llstR y.1 (scnS2 y.1 (scnS y.1 (scnS y.1 (llstS y.1 (numS y.1 (numS y.1 (flagS y.1 (flagS y.1 (numS y.1 (numS y.1 y.2)))))))))) Bool.false) (llstR y.1 (scnS2 y.1 (scnS y.1 (scnS y.1 (stmD y.1 y.2)))) Bool.false)) ∧
  Rfs (([y.1] : List (List UInt8))) (
  (@Eq Int (RS.at_ (scnS y.1 (scnS y.1 (scnS y.1 (llstS y.1 (numS y.1 (numS y.1 (flagS y.1 (flagS y.1 (numS y.1 (numS y.1 y.2))))))))))) (RS.at_ (strmS y.1 y.2))) ∧
  (@Eq Int (RS.err (scnS y.1 (scnS y.1 (scnS y.1 (llstS y.1 (numS y.1 (numS y.1 (flagS y.1 (flagS y.1 (numS y.1 (numS y.1 y.2))))))))))) (RS.err (strmS y.1 y.2))) ∧
  True)))))))))))))))))))))
theorem strmRV_eq : ∀ y, strmRVC y = strmRV y := fun y => by kernel_rfl
end Go.Proofs.YtacolbfofamocaaGreat.sx
/- Readers' lists, scans, streams: the contracts hold. -/
namespace Go.Proofs.YtacolbfofamocaaGreat.sx
open Go Go.RowKit
set_option maxRecDepth 100000
theorem flagS_ok {l : By} {s : RS} (h : RdOk (l, s)) : RdOk (l, flagS l s) := by
  unfold flagS flagB
  split
  · exact h
  · exact (numS_ok h).1
theorem textS_ok {l : By} {s : RS} {m : Int} (h : RdOk (l, s)) : RdOk (l, textS l s m) := by
  obtain ⟨⟨g1, g2, g3⟩, h2, h3, h4, h5⟩ := uptoS_ok (m := m) h
  simp only at g1 g2 g3
  unfold textS textB
  split
  · exact ⟨g1, g2, g3⟩
  split
  · exact h
  · refine ⟨?_, ?_, g3⟩ <;> simp only <;> omega
theorem lthrS_ok {l : By} {s : RS} (h : RdOk (l, s)) : RdOk (l, lthrS l s) := itS_ok (fun _ h => thrS_ok h) (cntS_ok h) _
theorem lstS_ok {l : By} {s : RS} (h : RdOk (l, s)) : RdOk (l, lstS l s) := lthrS_ok (capsS_ok (flagS_ok h))
theorem llstS_ok {l : By} {s : RS} (h : RdOk (l, s)) : RdOk (l, llstS l s) := itS_ok (fun _ h => lstS_ok h) (cntS_ok h) _
theorem scnS_ok {l : By} {s : RS} (h : RdOk (l, s)) : RdOk (l, scnS l s) := llstS_ok (numS_ok (textS_ok h)).1
theorem lstRH (y : By × RS) (hy : lstRC.pre y) : lstRVC y := by
  have h : RdOk (y.1, y.2) := hy
  unfold lstRVC
  simp only [Rfs_eq, and_true]
  exact ⟨⟨h⟩, ⟨flagS_ok h⟩, ⟨capsS_ok (flagS_ok h)⟩, rfl, rfl, rfl⟩
theorem lstROk : Ok lstRC := okOf (tab := [flagRC, capsRC, lthrRC]) (fn := Tryz.f61) (orc := lstRO) (by simp; exact ⟨flagROk, capsROk, lthrROk⟩) (by kernel_rfl) (by kernel_rfl) (fun _ => by exact Nat.le_of_ble_eq_true (by kernel_rfl)) fun y hy => Eq.mp (lstRV_eq y) (lstRH y hy)
theorem llstRH (y : By × RS) (hy : llstRC.pre y) : llstRVC y := by
  obtain ⟨l, s⟩ := y
  have ha : RdOk (l, s) := hy
  obtain ⟨⟨g1, g2, g3⟩, h2, h3, h4, h5⟩ := uptoS_ok (m := 8) ha
  simp only at g1 g2 g3
  have hc := cntS_ok (m := 8) ha
  unfold llstRVC
  have hs : isub IntKind.i64 (l.length : Int) (uptoS l s 8).at_ = (l.length : Int) - (uptoS l s 8).at_ := isub64 (by omega) (by omega)
  simp only [Rfs_eq, and_true, ieq_t, ieq_f, ilt_t, ilt_f, llen_eq, lcat_eq, hs, Bool.not_eq_true', Bool.not_eq_false', fits_t]
  refine ⟨⟨ha⟩, ⟨fun h6 => ⟨fun h7 => ⟨⟨trivial⟩, (), rfl, ?_, ?_, ⟨trivial⟩⟩, fun h7 => ⟨(), rfl, ?_, ?_, ⟨trivial⟩⟩⟩, fun h6 => ⟨(), rfl, ?_, ?_, ⟨trivial⟩⟩⟩, fun _ _ => ⟨⟨0, rfl, rfl, rfl, rfl, ⟨Nat.zero_le _, fun _ h => absurd h (by omega)⟩⟩, fun x hx => ?_⟩⟩
  · unfold cntS; rw [if_pos ⟨h6, h7⟩]
  · unfold cntS; rw [if_pos ⟨h6, h7⟩]
  · unfold cntS; rw [if_neg (fun h => by omega)]
  · unfold cntS; rw [if_neg (fun h => by omega)]
  · unfold cntS; rw [if_neg (fun h => h6 h.1)]
  · unfold cntS; rw [if_neg (fun h => h6 h.1)]
  · have hx1 := hx.out.1
    have hx2 := hx.out.2
    have hm : cntR l s 8 = uptoR l s 8 := rfl
    have hr := itS_ok (nxt := lstS l) (fun s h => lstS_ok h) hc x
    have hl : (itL (lstR l false) (lstS l) (cntS l s 8) x).length = x := itL_len x
    refine ⟨fun h6 => ⟨fun h7 => ⟨⟨hr⟩, ?_, x + 1, ?_, ?_, rfl, rfl, ⟨⟨by omega, okI_succ hx2 h7⟩, by omega⟩⟩, fun h7 => ?_⟩, fun h6 => ?_⟩
    · rw [List.length_append, hl]
      simp only [List.length_cons, List.length_nil]
      omega
    · rw [itL_succ]; rfl
    · rw [iadd64 (by omega) (by omega)]; rfl
    · have hN : itN (lstS l) (cntS l s 8) (cntR l s 8).toNat = x := itN_of hx1 hx2 (.inr h7)
      unfold llstR llstS
      rw [hN]
      refine ⟨fun h8 => ?_, fun h8 => absurd h8 h7⟩
      rw [if_pos ⟨h8, rfl⟩]
      exact ⟨rfl, rfl, rfl⟩
    · have hN : itN (lstS l) (cntS l s 8) (cntR l s 8).toNat = x := itN_of hx1 hx2 (.inl (by omega))
      unfold llstR llstS
      rw [hN]
      refine ⟨fun h8 => ?_, fun h8 => ?_⟩
      · rw [if_pos ⟨h8, rfl⟩]
        exact ⟨rfl, rfl, rfl⟩
      · rw [if_neg (fun h => h.1 h8)]
        exact ⟨rfl, rfl, rfl⟩
theorem llstROk : Ok llstRC := okOf (tab := [uptoRC, wrongC, lstRC]) (fn := Tryz.f60) (orc := llstRO) (by simp; exact ⟨uptoROk, wrongOk, lstROk⟩) (by kernel_rfl) (by kernel_rfl) (fun _ => by exact Nat.le_of_ble_eq_true (by kernel_rfl)) fun y hy => Eq.mp (llstRV_eq y) (llstRH y hy)
theorem glRH (y : By × RS) (hy : glRC.pre y) : glRVC y := by
  have h : RdOk (y.1, y.2) := hy
  unfold glRVC
  simp only [Rfs_eq, and_true]
  exact ⟨h⟩
theorem glROk : Ok glRC := okOf (tab := [llstRC]) (fn := Tryz.f33) (orc := glRO) (by simp; exact llstROk) (by kernel_rfl) (by kernel_rfl) (fun _ => by exact Nat.le_of_ble_eq_true (by kernel_rfl)) fun y hy => Eq.mp (glRV_eq y) (glRH y hy)
theorem scnRH (y : By × RS) (hy : scnRC.pre y) : scnRVC y := by
  have h : RdOk (y.1, y.2) := hy
  have h1 := textS_ok (m := 3) h
  unfold scnRVC
  simp only [Rfs_eq, and_true]
  exact ⟨⟨h⟩, ⟨h1⟩, ⟨(numS_ok h1).1⟩, rfl, rfl, rfl, rfl⟩
theorem scnROk : Ok scnRC := okOf (tab := [textRC, numRC, glRC]) (fn := Tryz.f34) (orc := scnRO) (by simp; exact ⟨textROk, numROk, glROk⟩) (by kernel_rfl) (by kernel_rfl) (fun _ => by exact Nat.le_of_ble_eq_true (by kernel_rfl)) fun y hy => Eq.mp (scnRV_eq y) (scnRH y hy)
theorem strmRH (y : By × RS) (hy : strmRC.pre y) : strmRVC y := by
  have h : RdOk (y.1, y.2) := hy
  have h1 := (numS_ok h).1
  have h2 := (numS_ok h1).1
  have h3 := flagS_ok h2
  have h4 := flagS_ok h3
  have h5 := (numS_ok h4).1
  have h6 := (numS_ok h5).1
  have h7 := llstS_ok h6
  have h8 := scnS_ok h7
  have h9 := scnS_ok h8
  unfold strmRVC
  simp only [Rfs_eq, and_true]
  refine ⟨⟨h⟩, ⟨h1⟩, ⟨h2⟩, ⟨h3⟩, ⟨h4⟩, ⟨h5⟩, ⟨h6⟩, ⟨h7⟩, ⟨h8⟩, ⟨h9⟩, ?_⟩
  repeat' first
    | exact rfl
    | (refine And.intro ?_ ?_)
theorem strmROk : Ok strmRC := okOf (tab := [numRC, flagRC, glRC, scnRC]) (fn := Tryz.f13) (orc := strmRO) (by simp; exact ⟨numROk, flagROk, glROk, scnROk⟩) (by kernel_rfl) (by kernel_rfl) (fun _ => by exact Nat.le_of_ble_eq_true (by kernel_rfl)) fun y hy => Eq.mp (strmRV_eq y) (strmRH y hy)
end Go.Proofs.YtacolbfofamocaaGreat.sx
/- Contracts of the document's readers: lists, scans, streams. -/
namespace Go.Proofs.YtacolbfofamocaaGreat.sx
open Go Go.RowKit
noncomputable section
/-- the reader ahead of the i-th list, and ahead of its threads -/
def rgI (l : By) (s : RS) (i : Nat) : RS := itS (lstS l) (cntS l s 8) i
def rgC (l : By) (s : RS) (i : Nat) : RS := cntS l (lstS0 l (rgI l s i)) 400
def rgN (l : By) (s : RS) (i : Nat) : Int := cntN l (lstS0 l (rgI l s i)) 400
def rgT (l : By) (s : RS) (i k : Nat) : List Thread := itL (thrR l) (thrS l) (rgC l s i) k
def rgcO (x : Lst) (v : AV D.E) : List (AV D.E) := [.bool x.done, .int .i64 x.c0, .int .i64 x.c1, .int .i64 x.c2, .int .i64 x.c3, .int .i64 x.c4, .int .i64 x.c5, .int .i64 x.c6, .int .i64 x.c7, .int .i64 x.c8, .int .i64 x.c9, v]
def rglRC : Con D := { rnumRC with f := 37, res := fun y => .list 2 (llstR y.1 y.2 true), heap' := fun y => rrdO y.1 (llstS y.1 y.2) }
def rglRO (y : rglRC.Y) : Orc D := ⟨[], [], [(122, { X := Nat, keep := [0, 4], sl := fun i => [(3, .grow 2 (itL (lstR y.1 true) (lstS y.1) (cntS y.1 y.2 8) i) 1), (5, .int .i64 i)], kp := [], pc := fun i => rrdO y.1 (rgI y.1 y.2 i) ++ [(1, .tok 2 54)], nx := 2, inv := fun i => i ≤ (cntN y.1 y.2 8).toNat ∧ okI (lstS y.1) (cntS y.1 y.2 8) i, me := fun i => (cntN y.1 y.2 8).toNat - i })],
  [], 1,
  [(125242, ⟨Nat, fun i => { X := Nat, keep := [0, 3, 4, 5, 6, 7], sl := fun k => [(8, .int .i64 k)], kp := [1], pc := fun k => rrdO y.1 (itS (thrS y.1) (rgC y.1 y.2 i) k) ++ [(2, .cells (rgcO (lstR y.1 true (rgI y.1 y.2 i)) (.grow 1 (rgT y.1 y.2 i k) 3)) 54 false), (3, .tok 1 117)], nx := 4, inv := fun k => k ≤ (rgN y.1 y.2 i).toNat ∧ okI (thrS y.1) (rgC y.1 y.2 i) k, me := fun k => (rgN y.1 y.2 i).toNat - k }⟩),
   (15655, ⟨Nat, fun i => { X := Unit, keep := [0, 3, 4, 5, 6], sl := fun _ => [], kp := [1], pc := fun _ => rrdO y.1 (lstS y.1 (rgI y.1 y.2 i)) ++ [(2, .cells (encD 2 (lstR y.1 true (rgI y.1 y.2 i))) 54 false)], nx := 3, inv := fun _ => True, me := fun _ => 0 }⟩)]⟩
def rglRV (y : rglRC.Y) : Prop := vcOf [ritemsC, rflagRC, rcapsRC, rnumRC] Tryz.f37 rglRC rglRO y
def rscnRC : Con D := { rnumRC with f := 38, res := fun y => .agg (scnL (scnR y.1 y.2 true)), heap' := fun y => rrdO y.1 (scnS y.1 y.2) }
def rscnRO (_ : rscnRC.Y) : Orc D := noO ()
def rscnRV (y : rscnRC.Y) : Prop := vcOf [rtextRC, rnumRC, rglRC] Tryz.f38 rscnRC rscnRO y
def rstrmRC : Con D := { rnumRC with f := 14, res := fun y => .agg (strmL (strmR y.1 y.2 true)), heap' := fun y => rrdO y.1 (strmS y.1 y.2) }
def rstrmRO (_ : rstrmRC.Y) : Orc D := noO ()
def rstrmRV (y : rstrmRC.Y) : Prop := vcOf [rnumRC, rflagRC, rglRC, rscnRC] Tryz.f14 rstrmRC rstrmRO y
end
end Go.Proofs.YtacolbfofamocaaGreat.sx
/- Conditions, as a tool printed them; that they are the functions' own the kernel computes. -/
namespace Go.Proofs.YtacolbfofamocaaGreat.sx
open Go Go.RowKit
def rglRVC (y : Prod (List UInt8) RS) : Prop :=
 (Iv (RdOk (y.1, y.2))) ∧
 Rfs (([(8 : Int)] : List Int)) (
  Rfs (([y.1] : List (List UInt8))) (
  Rfs (([RS.at_ y.2, RS.err y.2] : List Int)) (
  (
  ∃ z : Nat,
  Rfs (([cntN y.1 y.2 (8 : Int)] : List Int)) (
  (@Eq (List Lst) ([] : List Lst) (itL (lstR y.1 Bool.true) (lstS y.1) (cntS y.1 y.2 (8 : Int)) z)) ∧
  (@Eq Int (0 : Int) ((z : Nat) : Int)) ∧
  Rfs (([y.1] : List (List UInt8))) (
  (@Eq Int (RS.at_ (cntS y.1 y.2 (8 : Int))) (RS.at_ (rgI y.1 y.2 z))) ∧
  (@Eq Int (RS.err (cntS y.1 y.2 (8 : Int))) (RS.err (rgI y.1 y.2 z))) ∧
  (Iv (((z : Nat) ≤ (Int.toNat (cntN y.1 y.2 (8 : Int)))) ∧ okI (lstS y.1) (cntS y.1 y.2 (8 : Int)) z))))) ∧
  (
  ∀ x : Nat,
  (Iv (((x : Nat) ≤ (Int.toNat (cntN y.1 y.2 (8 : Int)))) ∧ okI (lstS y.1) (cntS y.1 y.2 (8 : Int)) x)) →
  (
  ((ilt ((x : Nat) : Int) (cntN y.1 y.2 (8 : Int))) = true) →
  (
  ((ieq (RS.err (rgI y.1 y.2 x)) (0 : Int)) = true) →
  (Iv (RdOk (y.1, rgI y.1 y.2 x))) ∧
  Rfs (([y.1] : List (List UInt8))) (
  Rfs (([RS.at_ (rgI y.1 y.2 x), RS.err (rgI y.1 y.2 x)] : List Int)) (
  (Iv (RdOk (y.1, flagS y.1 (rgI y.1 y.2 x)))) ∧
  Rfs (([y.1] : List (List UInt8))) (
  Rfs (([RS.at_ (flagS y.1 (rgI y.1 y.2 x)), RS.err (flagS y.1 (rgI y.1 y.2 x))] : List Int)) (
  (Iv (RdOk (y.1, capsS y.1 (flagS y.1 (rgI y.1 y.2 x))))) ∧
  Rfs (([(400 : Int)] : List Int)) (
  Rfs (([y.1] : List (List UInt8))) (
  Rfs (([RS.at_ (capsS y.1 (flagS y.1 (rgI y.1 y.2 x))), RS.err (capsS y.1 (flagS y.1 (rgI y.1 y.2 x)))] : List Int)) (
  ∃ z : Nat,
  (
  ∃ z1 : Nat,
  (
  ∃ z2 : Nat,
  Rfs (([itL (lstR y.1 Bool.true) (lstS y.1) (cntS y.1 y.2 (8 : Int)) x] : List (List Lst))) (
  Rfs (([cntN y.1 y.2 (8 : Int), ((x : Nat) : Int), cntN y.1 (capsS y.1 (flagS y.1 (rgI y.1 y.2 x))) (400 : Int)] : List Int)) (
  (@Eq Int (0 : Int) ((z2 : Nat) : Int)) ∧
  (@Eq Bool (flagR y.1 (rgI y.1 y.2 x)) (flagR y.1 (rgI y.1 y.2 z1))) ∧
  (@Eq Int (capR y.1 (flagS y.1 (rgI y.1 y.2 x)) 0) (capR y.1 (flagS y.1 (rgI y.1 y.2 z1)) 0)) ∧
  (@Eq Int (capR y.1 (flagS y.1 (rgI y.1 y.2 x)) 1) (capR y.1 (flagS y.1 (rgI y.1 y.2 z1)) 1)) ∧
  (@Eq Int (capR y.1 (flagS y.1 (rgI y.1 y.2 x)) 2) (capR y.1 (flagS y.1 (rgI y.1 y.2 z1)) 2)) ∧
  (@Eq Int (capR y.1 (flagS y.1 (rgI y.1 y.2 x)) 3) (capR y.1 (flagS y.1 (rgI y.1 y.2 z1)) 3)) ∧
  (@Eq Int (capR y.1 (flagS y.1 (rgI y.1 y.2 x)) 4) (capR y.1 (flagS y.1 (rgI y.1 y.2 z1)) 4)) ∧
  (@Eq Int (capR y.1 (flagS y.1 (rgI y.1 y.2 x)) 5) (capR y.1 (flagS y.1 (rgI y.1 y.2 z1)) 5)) ∧
  (@Eq Int (capR y.1 (flagS y.1 (rgI y.1 y.2 x)) 6) (capR y.1 (flagS y.1 (rgI y.1 y.2 z1)) 6)) ∧
  (@Eq Int (capR y.1 (flagS y.1 (rgI y.1 y.2 x)) 7) (capR y.1 (flagS y.1 (rgI y.1 y.2 z1)) 7)) ∧
  (@Eq Int (capR y.1 (flagS y.1 (rgI y.1 y.2 x)) 8) (capR y.1 (flagS y.1 (rgI y.1 y.2 z1)) 8)) ∧
  (@Eq Int (capR y.1 (flagS y.1 (rgI y.1 y.2 x)) 9) (capR y.1 (flagS y.1 (rgI y.1 y.2 z1)) 9)) ∧
  (@Eq (List Thread) ([] : List Thread) (rgT y.1 y.2 z1 z2)) ∧
  Rfs (([y.1] : List (List UInt8))) (
  (@Eq Int (RS.at_ (cntS y.1 (capsS y.1 (flagS y.1 (rgI y.1 y.2 x))) (400 : Int))) (RS.at_ (itS (thrS y.1) (cntS y.1 (lstS0 y.1 (rgI y.1 y.2 z1)) (400 : Int)) z2))) ∧
  (@Eq Int (RS.err (cntS y.1 (capsS y.1 (flagS y.1 (rgI y.1 y.2 x))) (400 : Int))) (RS.err (itS (thrS y.1) (cntS y.1 (lstS0 y.1 (rgI y.1 y.2 z1)) (400 : Int)) z2))) ∧
  (Iv (((z2 : Nat) ≤ (Int.toNat (rgN y.1 y.2 z1))) ∧ okI (thrS y.1) (cntS y.1 (lstS0 y.1 (rgI y.1 y.2 z1)) (400 : Int)) z2)))))) ∧
  (
  ∀ x1 : Nat,
  (Iv (((x1 : Nat) ≤ (Int.toNat (rgN y.1 y.2 z1))) ∧ okI (thrS y.1) (cntS y.1 (lstS0 y.1 (rgI y.1 y.2 z1)) (400 : Int)) x1)) →
  (
  ((ilt ((x1 : Nat) : Int) (cntN y.1 (capsS y.1 (flagS y.1 (rgI y.1 y.2 x))) (400 : Int))) = true) →
  (
  ((ieq (RS.err (itS (thrS y.1) (cntS y.1 (lstS0 y.1 (rgI y.1 y.2 z1)) (400 : Int)) x1)) (0 : Int)) = true) →
  (Iv (RdOk (y.1, itS (thrS y.1) (cntS y.1 (lstS0 y.1 (rgI y.1 y.2 z1)) (400 : Int)) x1))) ∧
  Rfs (([y.1] : List (List UInt8))) (
  Rfs (([RS.at_ (itS (thrS y.1) (cntS y.1 (lstS0 y.1 (rgI y.1 y.2 z1)) (400 : Int)) x1), RS.err (itS (thrS y.1) (cntS y.1 (lstS0 y.1 (rgI y.1 y.2 z1)) (400 : Int)) x1)] : List Int)) (
  (Iv (RdOk (y.1, numS y.1 (itS (thrS y.1) (cntS y.1 (lstS0 y.1 (rgI y.1 y.2 z1)) (400 : Int)) x1)))) ∧
  Rfs (([y.1] : List (List UInt8))) (
  Rfs (([RS.at_ (numS y.1 (itS (thrS y.1) (cntS y.1 (lstS0 y.1 (rgI y.1 y.2 z1)) (400 : Int)) x1)), RS.err (numS y.1 (itS (thrS y.1) (cntS y.1 (lstS0 y.1 (rgI y.1 y.2 z1)) (400 : Int)) x1))] : List Int)) (
  ((fits (llen (lcat (rgT y.1 y.2 z1 x1) ((Thread.mk (numR y.1 (itS (thrS y.1) (cntS y.1 (lstS0 y.1 (rgI y.1 y.2 z1)) (400 : Int)) x1)) (capR y.1 (numS y.1 (itS (thrS y.1) (cntS y.1 (lstS0 y.1 (rgI y.1 y.2 z1)) (400 : Int)) x1)) 0) (capR y.1 (numS y.1 (itS (thrS y.1) (cntS y.1 (lstS0 y.1 (rgI y.1 y.2 z1)) (400 : Int)) x1)) 1) (capR y.1 (numS y.1 (itS (thrS y.1) (cntS y.1 (lstS0 y.1 (rgI y.1 y.2 z1)) (400 : Int)) x1)) 2) (capR y.1 (numS y.1 (itS (thrS y.1) (cntS y.1 (lstS0 y.1 (rgI y.1 y.2 z1)) (400 : Int)) x1)) 3) (capR y.1 (numS y.1 (itS (thrS y.1) (cntS y.1 (lstS0 y.1 (rgI y.1 y.2 z1)) (400 : Int)) x1)) 4) (capR y.1 (numS y.1 (itS (thrS y.1) (cntS y.1 (lstS0 y.1 (rgI y.1 y.2 z1)) (400 : Int)) x1)) 5) (capR y.1 (numS y.1 (itS (thrS y.1) (cntS y.1 (lstS0 y.1 (rgI y.1 y.2 z1)) (400 : Int)) x1)) 6) (capR y.1 (numS y.1 (itS (thrS y.1) (cntS y.1 (lstS0 y.1 (rgI y.1 y.2 z1)) (400 : Int)) x1)) 7) (capR y.1 (numS y.1 (itS (thrS y.1) (cntS y.1 (lstS0 y.1 (rgI y.1 y.2 z1)) (400 : Int)) x1)) 8) (capR y.1 (numS y.1 (itS (thrS y.1) (cntS y.1 (lstS0 y.1 (rgI y.1 y.2 z1)) (400 : Int)) x1)) 9)) :: ([] : List Thread)))) 88) = true) ∧
  ∃ z2 : Nat,
  Rfs (([itL (lstR y.1 Bool.true) (lstS y.1) (cntS y.1 y.2 (8 : Int)) x] : List (List Lst))) (
  Rfs (([cntN y.1 y.2 (8 : Int), ((x : Nat) : Int), cntN y.1 (capsS y.1 (flagS y.1 (rgI y.1 y.2 x))) (400 : Int)] : List Int)) (
  (@Eq Int (iadd IntKind.i64 ((x1 : Nat) : Int) (1 : Int)) ((z2 : Nat) : Int)) ∧
  Rfs (([flagR y.1 (rgI y.1 y.2 z1)] : List Bool)) (
  Rfs (([capR y.1 (flagS y.1 (rgI y.1 y.2 z1)) 0, capR y.1 (flagS y.1 (rgI y.1 y.2 z1)) 1, capR y.1 (flagS y.1 (rgI y.1 y.2 z1)) 2, capR y.1 (flagS y.1 (rgI y.1 y.2 z1)) 3, capR y.1 (flagS y.1 (rgI y.1 y.2 z1)) 4, capR y.1 (flagS y.1 (rgI y.1 y.2 z1)) 5, capR y.1 (flagS y.1 (rgI y.1 y.2 z1)) 6, capR y.1 (flagS y.1 (rgI y.1 y.2 z1)) 7, capR y.1 (flagS y.1 (rgI y.1 y.2 z1)) 8, capR y.1 (flagS y.1 (rgI y.1 y.2 z1)) 9] : List Int)) (
  (@Eq (List Thread) (lcat (rgT y.1 y.2 z1 x1) ((Thread.mk (numR y.1 (itS (thrS y.1) (cntS y.1 (lstS0 y.1 (rgI y.1 y.2 z1)) (400 : Int)) x1)) (capR y.1 (numS y.1 (itS (thrS y.1) (cntS y.1 (lstS0 y.1 (rgI y.1 y.2 z1)) (400 : Int)) x1)) 0) (capR y.1 (numS y.1 (itS (thrS y.1) (cntS y.1 (lstS0 y.1 (rgI y.1 y.2 z1)) (400 : Int)) x1)) 1) (capR y.1 (numS y.1 (itS (thrS y.1) (cntS y.1 (lstS0 y.1 (rgI y.1 y.2 z1)) (400 : Int)) x1)) 2) (capR y.1 (numS y.1 (itS (thrS y.1) (cntS y.1 (lstS0 y.1 (rgI y.1 y.2 z1)) (400 : Int)) x1)) 3) (capR y.1 (numS y.1 (itS (thrS y.1) (cntS y.1 (lstS0 y.1 (rgI y.1 y.2 z1)) (400 : Int)) x1)) 4) (capR y.1 (numS y.1 (itS (thrS y.1) (cntS y.1 (lstS0 y.1 (rgI y.1 y.2 z1)) (400 : Int)) x1)) 5) (capR y.1 (numS y.1 (itS (thrS y.1) (cntS y.1 (lstS0 y.1 (rgI y.1 y.2 z1)) (400 : Int)) x1)) 6) (capR y.1 (numS y.1 (itS (thrS y.1) (cntS y.1 (lstS0 y.1 (rgI y.1 y.2 z1)) (400 : Int)) x1)) 7) (capR y.1 (numS y.1 (itS (thrS y.1) (cntS y.1 (lstS0 y.1 (rgI y.1 y.2 z1)) (400 : Int)) x1)) 8) (capR y.1 (numS y.1 (itS (thrS y.1) (cntS y.1 (lstS0 y.1 (rgI y.1 y.2 z1)) (400 : Int)) x1)) 9)) :: ([] : List Thread))) (rgT y.1 y.2 z1 z2)) ∧
  Rfs (([y.1] : List (List UInt8))) (
  (@Eq Int (RS.at_ (capsS y.1 (numS y.1 (itS (thrS y.1) (cntS y.1 (lstS0 y.1 (rgI y.1 y.2 z1)) (400 : Int)) x1)))) (RS.at_ (itS (thrS y.1) (cntS y.1 (lstS0 y.1 (rgI y.1 y.2 z1)) (400 : Int)) z2))) ∧
  (@Eq Int (RS.err (capsS y.1 (numS y.1 (itS (thrS y.1) (cntS y.1 (lstS0 y.1 (rgI y.1 y.2 z1)) (400 : Int)) x1)))) (RS.err (itS (thrS y.1) (cntS y.1 (lstS0 y.1 (rgI y.1 y.2 z1)) (400 : Int)) z2))) ∧
  (Iv ((((z2 : Nat) ≤ (Int.toNat (rgN y.1 y.2 z1))) ∧ okI (thrS y.1) (cntS y.1 (lstS0 y.1 (rgI y.1 y.2 z1)) (400 : Int)) z2) ∧ ((Int.toNat (rgN y.1 y.2 z1) : Nat) - z2 : Nat) < ((Int.toNat (rgN y.1 y.2 z1) : Nat) - x1))))))))))))) ∧
  (
  ((ieq (RS.err (itS (thrS y.1) (cntS y.1 (lstS0 y.1 (rgI y.1 y.2 z1)) (400 : Int)) x1)) (0 : Int)) = false) →
  ∃ _z2 : Unit,
  Rfs (([itL (lstR y.1 Bool.true) (lstS y.1) (cntS y.1 y.2 (8 : Int)) x] : List (List Lst))) (
  Rfs (([cntN y.1 y.2 (8 : Int), ((x : Nat) : Int)] : List Int)) (
  (@Eq Bool (flagR y.1 (rgI y.1 y.2 z1)) (flagR y.1 (rgI y.1 y.2 z))) ∧
  (@Eq Int (capR y.1 (flagS y.1 (rgI y.1 y.2 z1)) 0) (capR y.1 (flagS y.1 (rgI y.1 y.2 z)) 0)) ∧
  (@Eq Int (capR y.1 (flagS y.1 (rgI y.1 y.2 z1)) 1) (capR y.1 (flagS y.1 (rgI y.1 y.2 z)) 1)) ∧
  (@Eq Int (capR y.1 (flagS y.1 (rgI y.1 y.2 z1)) 2) (capR y.1 (flagS y.1 (rgI y.1 y.2 z)) 2)) ∧
  (@Eq Int (capR y.1 (flagS y.1 (rgI y.1 y.2 z1)) 3) (capR y.1 (flagS y.1 (rgI y.1 y.2 z)) 3)) ∧
  (@Eq Int (capR y.1 (flagS y.1 (rgI y.1 y.2 z1)) 4) (capR y.1 (flagS y.1 (rgI y.1 y.2 z)) 4)) ∧
  (@Eq Int (capR y.1 (flagS y.1 (rgI y.1 y.2 z1)) 5) (capR y.1 (flagS y.1 (rgI y.1 y.2 z)) 5)) ∧
  (@Eq Int (capR y.1 (flagS y.1 (rgI y.1 y.2 z1)) 6) (capR y.1 (flagS y.1 (rgI y.1 y.2 z)) 6)) ∧
  (@Eq Int (capR y.1 (flagS y.1 (rgI y.1 y.2 z1)) 7) (capR y.1 (flagS y.1 (rgI y.1 y.2 z)) 7)) ∧
  (@Eq Int (capR y.1 (flagS y.1 (rgI y.1 y.2 z1)) 8) (capR y.1 (flagS y.1 (rgI y.1 y.2 z)) 8)) ∧
  (@Eq Int (capR y.1 (flagS y.1 (rgI y.1 y.2 z1)) 9) (capR y.1 (flagS y.1 (rgI y.1 y.2 z)) 9)) ∧
  (@Eq (List Thread) (rgT y.1 y.2 z1 x1) (lthrR y.1 (lstS0 y.1 (rgI y.1 y.2 z)) Bool.true)) ∧
  Rfs (([y.1] : List (List UInt8))) (
  (@Eq Int (RS.at_ (itS (thrS y.1) (cntS y.1 (lstS0 y.1 (rgI y.1 y.2 z1)) (400 : Int)) x1)) (RS.at_ (lstS y.1 (rgI y.1 y.2 z)))) ∧
  (@Eq Int (RS.err (itS (thrS y.1) (cntS y.1 (lstS0 y.1 (rgI y.1 y.2 z1)) (400 : Int)) x1)) (RS.err (lstS y.1 (rgI y.1 y.2 z)))) ∧
  (Iv True)))))) ∧
  (
  ((ilt ((x1 : Nat) : Int) (cntN y.1 (capsS y.1 (flagS y.1 (rgI y.1 y.2 x))) (400 : Int))) = false) →
  ∃ _z2 : Unit,
  Rfs (([itL (lstR y.1 Bool.true) (lstS y.1) (cntS y.1 y.2 (8 : Int)) x] : List (List Lst))) (
  Rfs (([cntN y.1 y.2 (8 : Int), ((x : Nat) : Int)] : List Int)) (
  (@Eq Bool (flagR y.1 (rgI y.1 y.2 z1)) (flagR y.1 (rgI y.1 y.2 z))) ∧
  (@Eq Int (capR y.1 (flagS y.1 (rgI y.1 y.2 z1)) 0) (capR y.1 (flagS y.1 (rgI y.1 y.2 z)) 0)) ∧
  (@Eq Int (capR y.1 (flagS y.1 (rgI y.1 y.2 z1)) 1) (capR y.1 (flagS y.1 (rgI y.1 y.2 z)) 1)) ∧
  (@Eq Int (capR y.1 (flagS y.1 (rgI y.1 y.2 z1)) 2) (capR y.1 (flagS y.1 (rgI y.1 y.2 z)) 2)) ∧
  (@Eq Int (capR y.1 (flagS y.1 (rgI y.1 y.2 z1)) 3) (capR y.1 (flagS y.1 (rgI y.1 y.2 z)) 3)) ∧
  (@Eq Int (capR y.1 (flagS y.1 (rgI y.1 y.2 z1)) 4) (capR y.1 (flagS y.1 (rgI y.1 y.2 z)) 4)) ∧
  (@Eq Int (capR y.1 (flagS y.1 (rgI y.1 y.2 z1)) 5) (capR y.1 (flagS y.1 (rgI y.1 y.2 z)) 5)) ∧
  (@Eq Int (capR y.1 (flagS y.1 (rgI y.1 y.2 z1)) 6) (capR y.1 (flagS y.1 (rgI y.1 y.2 z)) 6)) ∧
  (@Eq Int (capR y.1 (flagS y.1 (rgI y.1 y.2 z1)) 7) (capR y.1 (flagS y.1 (rgI y.1 y.2 z)) 7)) ∧
  (@Eq Int (capR y.1 (flagS y.1 (rgI y.1 y.2 z1)) 8) (capR y.1 (flagS y.1 (rgI y.1 y.2 z)) 8)) ∧
  (@Eq Int (capR y.1 (flagS y.1 (rgI y.1 y.2 z1)) 9) (capR y.1 (flagS y.1 (rgI y.1 y.2 z)) 9)) ∧
  (@Eq (List Thread) (rgT y.1 y.2 z1 x1) (lthrR y.1 (lstS0 y.1 (rgI y.1 y.2 z)) Bool.true)) ∧
  Rfs (([y.1] : List (List UInt8))) (
  (@Eq Int (RS.at_ (itS (thrS y.1) (cntS y.1 (lstS0 y.1 (rgI y.1 y.2 z1)) (400 : Int)) x1)) (RS.at_ (lstS y.1 (rgI y.1 y.2 z)))) ∧
  (@Eq Int (RS.err (itS (thrS y.1) (cntS y.1 (lstS0 y.1 (rgI y.1 y.2 z1)) (400 : Int)) x1)) (RS.err (lstS y.1 (rgI y.1 y.2 z)))) ∧
  (Iv True))))))) ∧
  (
  ∀ _x1 : Unit,
  (Iv True) →
  ((fits (llen (lcat (itL (lstR y.1 Bool.true) (lstS y.1) (cntS y.1 y.2 (8 : Int)) x) ((Lst.mk (flagR y.1 (rgI y.1 y.2 z)) (capR y.1 (flagS y.1 (rgI y.1 y.2 z)) 0) (capR y.1 (flagS y.1 (rgI y.1 y.2 z)) 1) (capR y.1 (flagS y.1 (rgI y.1 y.2 z)) 2) (capR y.1 (flagS y.1 (rgI y.1 y.2 z)) 3) (capR y.1 (flagS y.1 (rgI y.1 y.2 z)) 4) (capR y.1 (flagS y.1 (rgI y.1 y.2 z)) 5) (capR y.1 (flagS y.1 (rgI y.1 y.2 z)) 6) (capR y.1 (flagS y.1 (rgI y.1 y.2 z)) 7) (capR y.1 (flagS y.1 (rgI y.1 y.2 z)) 8) (capR y.1 (flagS y.1 (rgI y.1 y.2 z)) 9) (lthrR y.1 (lstS0 y.1 (rgI y.1 y.2 z)) Bool.true)) :: ([] : List Lst)))) 112) = true) ∧
  ∃ z1 : Nat,
  Rfs (([cntN y.1 y.2 (8 : Int)] : List Int)) (
  (@Eq (List Lst) (lcat (itL (lstR y.1 Bool.true) (lstS y.1) (cntS y.1 y.2 (8 : Int)) x) ((Lst.mk (flagR y.1 (rgI y.1 y.2 z)) (capR y.1 (flagS y.1 (rgI y.1 y.2 z)) 0) (capR y.1 (flagS y.1 (rgI y.1 y.2 z)) 1) (capR y.1 (flagS y.1 (rgI y.1 y.2 z)) 2) (capR y.1 (flagS y.1 (rgI y.1 y.2 z)) 3) (capR y.1 (flagS y.1 (rgI y.1 y.2 z)) 4) (capR y.1 (flagS y.1 (rgI y.1 y.2 z)) 5) (capR y.1 (flagS y.1 (rgI y.1 y.2 z)) 6) (capR y.1 (flagS y.1 (rgI y.1 y.2 z)) 7) (capR y.1 (flagS y.1 (rgI y.1 y.2 z)) 8) (capR y.1 (flagS y.1 (rgI y.1 y.2 z)) 9) (lthrR y.1 (lstS0 y.1 (rgI y.1 y.2 z)) Bool.true)) :: ([] : List Lst))) (itL (lstR y.1 Bool.true) (lstS y.1) (cntS y.1 y.2 (8 : Int)) z1)) ∧
  (@Eq Int (iadd IntKind.i64 ((x : Nat) : Int) (1 : Int)) ((z1 : Nat) : Int)) ∧
  Rfs (([y.1] : List (List UInt8))) (
  (@Eq Int (RS.at_ (lstS y.1 (rgI y.1 y.2 z))) (RS.at_ (rgI y.1 y.2 z1))) ∧
  (@Eq Int (RS.err (lstS y.1 (rgI y.1 y.2 z))) (RS.err (rgI y.1 y.2 z1))) ∧
  (Iv ((((z1 : Nat) ≤ (Int.toNat (cntN y.1 y.2 (8 : Int)))) ∧ okI (lstS y.1) (cntS y.1 y.2 (8 : Int)) z1) ∧ ((Int.toNat (cntN y.1 y.2 (8 : Int)) : Nat) - z1 : Nat) < ((Int.toNat (cntN y.1 y.2 (8 : Int)) : Nat) - x)))))))))))))) ∧
  (
  ((ieq (RS.err (rgI y.1 y.2 x)) (0 : Int)) = false) →
  (@Eq (List Lst) (itL (lstR y.1 Bool.true) (lstS y.1) (cntS y.1 y.2 (8 : Int)) x) (llstR y.1 y.2 Bool.true)) ∧
  Rfs (([y.1] : List (List UInt8))) (
  (@Eq Int (RS.at_ (rgI y.1 y.2 x)) (RS.at_ (llstS y.1 y.2))) ∧
  (@Eq Int (RS.err (rgI y.1 y.2 x)) (RS.err (llstS y.1 y.2))) ∧
  True))) ∧
  (
  ((ilt ((x : Nat) : Int) (cntN y.1 y.2 (8 : Int))) = false) →
  (@Eq (List Lst) (itL (lstR y.1 Bool.true) (lstS y.1) (cntS y.1 y.2 (8 : Int)) x) (llstR y.1 y.2 Bool.true)) ∧
  Rfs (([y.1] : List (List UInt8))) (
  (@Eq Int (RS.at_ (rgI y.1 y.2 x)) (RS.at_ (llstS y.1 y.2))) ∧
  (@Eq Int (RS.err (rgI y.1 y.2 x)) (RS.err (llstS y.1 y.2))) ∧
  True))))))
theorem rglRV_eq : ∀ y, rglRVC y = rglRV y := fun y => by kernel_rfl
def rscnRVC (y : Prod (List UInt8) RS) : Prop :=
 (Iv (RdOk (y.1, y.2))) ∧
 Rfs (([(3 : Int)] : List Int)) (
  Rfs (([y.1] : List (List UInt8))) (
  Rfs (([RS.at_ y.2, RS.err y.2] : List Int)) (
  (Iv (RdOk (y.1, textS y.1 y.2 (3 : Int)))) ∧
  Rfs (([y.1] : List (List UInt8))) (
  Rfs (([RS.at_ (textS y.1 y.2 (3 : Int)), RS.err (textS y.1 y.2 (3 : Int))] : List Int)) (
  (Iv (RdOk (y.1, numS y.1 (textS y.1 y.2 (3 : Int))))) ∧
  Rfs (([y.1] : List (List UInt8))) (
  Rfs (([RS.at_ (numS y.1 (textS y.1 y.2 (3 : Int))), RS.err (numS y.1 (textS y.1 y.2 (3 : Int)))] : List Int)) (
  Rfs (([textR y.1 y.2 (3 : Int)] : List (List UInt8))) (
  (@Eq Int (numR y.1 (textS y.1 y.2 (3 : Int))) (numR y.1 (scnS1 y.1 y.2))) ∧
  (@Eq (List Lst) (llstR y.1 (numS y.1 (textS y.1 y.2 (3 : Int))) Bool.true) (llstR y.1 (scnS2 y.1 y.2) Bool.true)) ∧
  Rfs (([y.1] : List (List UInt8))) (
  (@Eq Int (RS.at_ (llstS y.1 (numS y.1 (textS y.1 y.2 (3 : Int))))) (RS.at_ (scnS y.1 y.2))) ∧
  (@Eq Int (RS.err (llstS y.1 (numS y.1 (textS y.1 y.2 (3 : Int))))) (RS.err (scnS y.1 y.2))) ∧
  True)))))))))
theorem rscnRV_eq : ∀ y, rscnRVC y = rscnRV y := fun y => by kernel_rfl
def rstrmRVC (y : Prod (List UInt8) RS) : Prop :=
 (Iv (RdOk (y.1, y.2))) ∧
 Rfs (([y.1] : List (List UInt8))) (
  Rfs (([RS.at_ y.2, RS.err y.2] : List Int)) (
  (Iv (RdOk (y.1, numS y.1 y.2))) ∧
  Rfs (([y.1] : List (List UInt8))) (
  Rfs (([RS.at_ (numS y.1 y.2), RS.err (numS y.1 y.2)] : List Int)) (
  (Iv (RdOk (y.1, numS y.1 (numS y.1 y.2)))) ∧
  Rfs (([y.1] : List (List UInt8))) (
  Rfs (([RS.at_ (numS y.1 (numS y.1 y.2)), RS.err (numS y.1 (numS y.1 y.2))] : List Int)) (
  (Iv (RdOk (y.1, flagS y.1 (numS y.1 (numS y.1 y.2))))) ∧
  Rfs (([y.1] : List (List UInt8))) (
  Rfs (([RS.at_ (flagS y.1 (numS y.1 (numS y.1 y.2))), RS.err (flagS y.1 (numS y.1 (numS y.1 y.2)))] : List Int)) (
  (Iv (RdOk (y.1, flagS y.1 (flagS y.1 (numS y.1 (numS y.1 y.2)))))) ∧
  Rfs (([y.1] : List (List UInt8))) (
  Rfs (([RS.at_ (flagS y.1 (flagS y.1 (numS y.1 (numS y.1 y.2)))), RS.err (flagS y.1 (flagS y.1 (numS y.1 (numS y.1 y.2))))] : List Int)) (
  (Iv (RdOk (y.1, numS y.1 (flagS y.1 (flagS y.1 (numS y.1 (numS y.1 y.2))))))) ∧
  Rfs (([y.1] : List (List UInt8))) (
  Rfs (([RS.at_ (numS y.1 (flagS y.1 (flagS y.1 (numS y.1 (numS y.1 y.2))))), RS.err (numS y.1 (flagS y.1 (flagS y.1 (numS y.1 (numS y.1 y.2)))))] : List Int)) (
  (Iv (RdOk (y.1, numS y.1 (numS y.1 (flagS y.1 (flagS y.1 (numS y.1 (numS y.1 y.2)))))))) ∧
  Rfs (([y.1] : List (List UInt8))) (
  Rfs (([RS.at_ (numS y.1 (numS y.1 (flagS y.1 (flagS y.1 (numS y.1 (numS y.1 y.2)))))), RS.err (numS y.1 (numS y.1 (flagS y.1 (flagS y.1 (numS y.1 (numS y.1 y.2))))))] : List Int)) (
  (Iv (RdOk (y.1, llstS y.1 (numS y.1 (numS y.1 (flagS y.1 (flagS y.1 (numS y.1 (numS y.1 y.2))))))))) ∧
  Rfs (([y.1] : List (List UInt8))) (
  Rfs (([RS.at_ (llstS y.1 (numS y.1 (numS y.1 (flagS y.1 (flagS y.1 (numS y.1 (numS y.1 y.2))))))), RS.err (llstS y.1 (numS y.1 (numS y.1 (flagS y.1 (flagS y.1 (numS y.1 (numS y.1 y.2)))))))] : List Int)) (
  (Iv (RdOk (y.1, scnS y.1 (llstS y.1 (numS y.1 (numS y.1 (flagS y.1 (flagS y.1 (numS y.1 (numS y.1 y.2)))))))))) ∧
  Rfs (([y.1] : List (List UInt8))) (
  Rfs (([RS.at_ (scnS y.1 (llstS y.1 (numS y.1 (numS y.1 (flagS y.1 (flagS y.1 (numS y.1 (numS y.1 y.2)))))))), RS.err (scnS y.1 (llstS y.1 (numS y.1 (numS y.1 (flagS y.1 (flagS y.1 (numS y.1 (numS y.1 y.2))))))))] : List Int)) (
  (Iv (RdOk (y.1, scnS y.1 (scnS y.1 (llstS y.1 (numS y.1 (numS y.1 (flagS y.1 (flagS y.1 (numS y.1 (numS y.1 y.2))))))))))) ∧
  Rfs (([y.1] : List (List UInt8))) (
  Rfs (([RS.at_ (scnS y.1 (scnS y.1 (llstS y.1 (numS y.1 (numS y.1 (flagS y.1 (flagS y.1 (numS y.1 (numS y.1 y.2))))))))), RS.err (scnS y.1 (scnS y.1 (llstS y.1 (numS y.1 (numS y.1 (flagS y.1 (flagS y.1 (numS y.1 (numS y.1 y.2))))))))), numR y.1 y.2, numR y.1 (numS y.1 y.2)] : List Int)) (
  (@Eq Bool (flagR y.1 (numS y.1 (numS y.1 y.2))) (flagR y.1 (stmA y.1 y.2))) ∧
  (@Eq Bool (flagR y.1 (flagS y.1 (numS y.1 (numS y.1 y.2)))) (flagR y.1 (flagS y.1 (stmA y.1 y.2)))) ∧
  (@Eq Int (numR y.1 (flagS y.1 (flagS y.1 (numS y.1 (numS y.1 y.2))))) (numR y.1 (stmB y.1 y.2))) ∧
  (@Eq Int (numR y.1 (numS y.1 (flagS y.1 (flagS y.1 (numS y.1 (numS y.1 y.2)))))) (numR y.1 (numS y.1 (stmB y.1 y.2)))) ∧
  (@Eq (List Lst) (llstR y.1 (numS y.1 (numS y.1 (flagS y.1 (flagS y.1 (numS y.1 (numS y.1 y.2)))))) Bool.true) (llstR y.1 (numS y.1 (numS y.1 (stmB y.1 y.2))) Bool.true)) ∧
  (@Eq (List UInt8) (textR y.1 (llstS y.1 (numS y.1 (numS y.1 (flagS y.1 (flagS y.1 (numS y.1 (numS y.1 y.2))))))) (3 : Int)) (textR y.1 (stmD y.1 y.2) (3 : Int))) ∧
  (@Eq Int (numR y.1 (scnS1 y.1 (llstS y.1 (numS y.1 (numS y.1 (flagS y.1 (flagS y.1 (numS y.1 (numS y.1 y.2))))))))) (numR y.1 (scnS1 y.1 (stmD y.1 y.2)))) ∧
  (@Eq (List Lst) (llstR y.1 (scnS2 y.1 (llstS y.1 (numS y.1 (numS y.1 (flagS y.1 (flagS y.1 (numS y.1 (numS y.1 y.2)))))))) Bool.true) (llstR y.1 (scnS2 y.1 (stmD y.1 y.2)) Bool.true)) ∧
  (@Eq (List UInt8) (textR y.1 (scnS y.1 (llstS y.1 (numS y.1 (numS y.1 (flagS y.1 (flagS y.1 (numS y.1 (numS y.1 y.2)))))))) (3 : Int)) (textR y.1 (scnS y.1 (stmD y.1 y.2)) (3 : Int))) ∧
  (@Eq Int (numR y.1 (scnS1 y.1 (scnS y.1 (llstS y.1 (numS y.1 (numS y.1 (flagS y.1 (flagS y.1 (numS y.1 (numS y.1 y.2)))))))))) (numR y.1 (scnS1 y.1 (scnS y.1 (stmD y.1 y.2))))) ∧
  (@Eq (List Lst) (llstR y.1 (scnS2 y.1 (scnS y.1 (llstS y.1 (numS y.1 (numS y.1 (flagS y.1 (flagS y.1 (numS y.1 (numS y.1 y.2))))))))) Bool.true) (llstR y.1 (scnS2 y.1 (scnS y.1 (stmD y.1 y.2))) Bool.true)) ∧
  (@Eq (List UInt8) (textR y.1 (scnS y.1 (scnS y.1 (llstS y.1 (numS y.1 (numS y.1 (flagS y.1 (flagS y.1 (numS y.1 (numS y.1 y.2))))))))) (3 : Int)) (textR y.1 (scnS y.1 (scnS y.1 (stmD y.1 y.2))) (3 : Int))) ∧
  (@Eq Int (numR y.1 (scnS1 y.1 (scnS y.1 (scnS y.1 (llstS y.1 (numS y.1 (numS y.1 (flagS y.1 (flagS y.1 (numS y.1 (numS y.1 y.2))))))))))) (numR y.1 (scnS1 y.1 (scnS y.1 (scnS y.1 (stmD y.1 y.2)))))) ∧
  (@Eq (List Lst) (llstR y.1 (scnS2 y.1 (scnS y.1 (scnS y.1 (llstS y.1 (numS y.1 (numS y.1 (flagS y.1 (flagS y.1 (numS y.1 (numS y.1 y.2)))))))))) Bool.true) (llstR y.1 (scnS2 y.1 (scnS y.1 (scnS y.1 (stmD y.1 y.2)))) Bool.true)) ∧
  Rfs (([y.1] : List (List UInt8))) (
  (@Eq Int (RS.at_ (scnS y.1 (scnS y.1 (scnS y.1 (llstS y.1 (numS y.1 (numS y.1 (flagS y.1 (flagS y.1 (numS y.1 (numS y.1 y.2))))))))))) (RS.at_ (strmS y.1 y.2))) ∧
  (@Eq Int (RS.err (scnS y.1 (scnS y.1 (scnS y.1 (llstS y.1 (numS y.1 (numS y.1 (flagS y.1 (flagS y.1 (numS y.1 (numS y.1 y.2))))))))))) (RS.err (strmS y.1 y.2))) ∧
  True)))))))))))))))))))))
theorem rstrmRV_eq : ∀ y, rstrmRVC y = rstrmRV y := fun y => by kernel_rfl
end Go.Proofs.YtacolbfofamocaaGreat.sx
/- The document's readers' lists, scans, streams: the contracts hold. -/
namespace Go.Proofs.YtacolbfofamocaaGreat.sx
open Go Go.RowKit
set_option maxRecDepth 100000
theorem itN_cnt {nxt : RS → RS} {l : By} {s : RS} {m : Int} : itN nxt (cntS l s m) (cntR l s m).toNat = itN nxt (cntS l s m) (cntN l s m).toNat := by
  by_cases h : (cntS l s m).err ≠ 0
  · have e : cntN l s m = 0 := by unfold cntN; rw [if_pos h]
    have h0 : itN nxt (cntS l s m) (cntR l s m).toNat = 0 := itN_of (i := 0) (nxt := nxt) (s := cntS l s m) (Nat.zero_le _) (fun _ h => absurd h (by omega)) (.inr (show (cntS l s m).err ≠ 0 from h))
    rw [e, h0]
    rfl
  · have e : cntN l s m = cntR l s m := by unfold cntN; rw [if_neg h]; rfl
    rw [e]
theorem cntN_le {l : By} {s : RS} {m : Int} (h : RdOk (l, s)) : cntN l s m ≤ max m 0 := by
  obtain ⟨_, _, _, _, h5⟩ := uptoS_ok (m := m) h
  unfold cntN
  split <;> omega
theorem rglRH (y : By × RS) (hy : rglRC.pre y) : rglRVC y := by
  obtain ⟨l, s⟩ := y
  have ha : RdOk (l, s) := hy
  have hc := cntS_ok (m := 8) ha
  have hn := cntN_le (m := 8) ha
  unfold rglRVC
  simp only [Rfs_eq, and_true, ieq_t, ieq_f, ilt_t, ilt_f, llen_eq, lcat_eq, fits_t]
  refine ⟨⟨ha⟩, ⟨0, rfl, rfl, rfl, rfl, ⟨Nat.zero_le _, fun _ h => absurd h (by omega)⟩⟩, fun x hx => ?_⟩
  have hx1 := hx.out.1
  have hx2 := hx.out.2
  have hr : RdOk (l, rgI l s x) := itS_ok (nxt := lstS l) (fun s h => lstS_ok h) hc x
  have hl : (itL (lstR l true) (lstS l) (cntS l s 8) x).length = x := itL_len x
  have hq := capsS_ok (flagS_ok hr)
  have hn2 := cntN_le (m := 400) hq
  have hc2 := cntS_ok (m := 400) hq
  refine ⟨fun h1 => ⟨fun h2 => ⟨⟨hr⟩, ⟨flagS_ok hr⟩, ⟨hq⟩, x, ⟨x, ⟨0, rfl, ?_⟩, fun k hk => ?_⟩, fun _ _ => ⟨?_, x + 1, ?_, ?_, rfl, rfl, ⟨⟨by omega, okI_succ hx2 h2⟩, by omega⟩⟩⟩, fun h2 => ?_⟩, fun h1 => ?_⟩
  · repeat' first
      | exact rfl
      | exact ⟨Nat.zero_le _, fun _ h => absurd h (by omega)⟩
      | (refine And.intro ?_ ?_)
  · have hk1 := hk.out.1
    have hk2 := hk.out.2
    have hk3 : (rgN l s x) = cntN l (capsS l (flagS l (rgI l s x))) 400 := rfl
    have hr2 := itS_ok (nxt := thrS l) (fun s h => thrS_ok h) hc2 k
    have hl2 : (rgT l s x k).length = k := itL_len k
    refine ⟨fun h3 => ⟨fun h4 => ⟨⟨hr2⟩, ⟨(numS_ok hr2).1⟩, ?_, k + 1, ?_, ?_, rfl, rfl, ⟨⟨by omega, okI_succ hk2 h4⟩, by omega⟩⟩, fun h4 => ⟨(), ?_⟩⟩, fun h3 => ⟨(), ?_⟩⟩
    · rw [List.length_append, hl2]
      simp only [List.length_cons, List.length_nil]
      omega
    · rw [iadd64 (by omega) (by omega)]; rfl
    · exact (itL_succ k).symm
    · have hN : itN (thrS l) (rgC l s x) (cntR l (lstS0 l (rgI l s x)) 400).toNat = k := (itN_cnt).trans (itN_of hk1 hk2 (.inr h4))
      have e1 : rgT l s x k = lthrR l (lstS0 l (rgI l s x)) true := by unfold lthrR; rw [if_neg (by simp)]; show _ = itL _ _ (rgC l s x) (itN (thrS l) (rgC l s x) _); rw [hN]; rfl
      have e2 : itS (thrS l) (cntS l (lstS0 l (rgI l s x)) 400) k = lstS l (rgI l s x) := by unfold lstS lthrS; show _ = itS _ (rgC l s x) (itN (thrS l) (rgC l s x) _); rw [hN]; rfl
      rw [e1, e2]
      repeat' first
        | exact rfl
        | exact ⟨trivial⟩
        | (refine And.intro ?_ ?_)
    · have hN : itN (thrS l) (rgC l s x) (cntR l (lstS0 l (rgI l s x)) 400).toNat = k := (itN_cnt).trans (itN_of hk1 hk2 (.inl (by show k = (rgN l s x).toNat; omega)))
      have e1 : rgT l s x k = lthrR l (lstS0 l (rgI l s x)) true := by unfold lthrR; rw [if_neg (by simp)]; show _ = itL _ _ (rgC l s x) (itN (thrS l) (rgC l s x) _); rw [hN]; rfl
      have e2 : itS (thrS l) (cntS l (lstS0 l (rgI l s x)) 400) k = lstS l (rgI l s x) := by unfold lstS lthrS; show _ = itS _ (rgC l s x) (itN (thrS l) (rgC l s x) _); rw [hN]; rfl
      rw [e1, e2]
      repeat' first
        | exact rfl
        | exact ⟨trivial⟩
        | (refine And.intro ?_ ?_)
  · rw [List.length_append, hl]
    simp only [List.length_cons, List.length_nil]
    omega
  · exact (itL_succ x).symm
  · rw [iadd64 (by omega) (by omega)]; rfl
  · have hN : itN (lstS l) (cntS l s 8) (cntR l s 8).toNat = x := (itN_cnt).trans (itN_of hx1 hx2 (.inr h2))
    unfold llstR llstS
    rw [hN, if_neg (by simp)]
    exact ⟨rfl, rfl, rfl⟩
  · have hN : itN (lstS l) (cntS l s 8) (cntR l s 8).toNat = x := (itN_cnt).trans (itN_of hx1 hx2 (.inl (by omega)))
    unfold llstR llstS
    rw [hN, if_neg (by simp)]
    exact ⟨rfl, rfl, rfl⟩
theorem rglROk : Ok rglRC := okOf (tab := [ritemsC, rflagRC, rcapsRC, rnumRC]) (fn := Tryz.f37) (orc := rglRO) (by simp; exact ⟨ritemsOk, rflagROk, rcapsROk, rnumROk⟩) (by kernel_rfl) (by kernel_rfl) (fun _ => by exact Nat.le_of_ble_eq_true (by kernel_rfl)) fun y hy => Eq.mp (rglRV_eq y) (rglRH y hy)
theorem rscnRH (y : By × RS) (hy : rscnRC.pre y) : rscnRVC y := by
  have h : RdOk (y.1, y.2) := hy
  have h1 := textS_ok (m := 3) h
  unfold rscnRVC
  simp only [Rfs_eq, and_true]
  exact ⟨⟨h⟩, ⟨h1⟩, ⟨(numS_ok h1).1⟩, rfl, rfl, rfl, rfl⟩
theorem rscnROk : Ok rscnRC := okOf (tab := [rtextRC, rnumRC, rglRC]) (fn := Tryz.f38) (orc := rscnRO) (by simp; exact ⟨rtextROk, rnumROk, rglROk⟩) (by kernel_rfl) (by kernel_rfl) (fun _ => by exact Nat.le_of_ble_eq_true (by kernel_rfl)) fun y hy => Eq.mp (rscnRV_eq y) (rscnRH y hy)
theorem rstrmRH (y : By × RS) (hy : rstrmRC.pre y) : rstrmRVC y := by
  have h : RdOk (y.1, y.2) := hy
  have h1 := (numS_ok h).1
  have h2 := (numS_ok h1).1
  have h3 := flagS_ok h2
  have h4 := flagS_ok h3
  have h5 := (numS_ok h4).1
  have h6 := (numS_ok h5).1
  have h7 := llstS_ok h6
  have h8 := scnS_ok h7
  have h9 := scnS_ok h8
  unfold rstrmRVC
  simp only [Rfs_eq, and_true]
  refine ⟨⟨h⟩, ⟨h1⟩, ⟨h2⟩, ⟨h3⟩, ⟨h4⟩, ⟨h5⟩, ⟨h6⟩, ⟨h7⟩, ⟨h8⟩, ⟨h9⟩, ?_⟩
  repeat' first
    | exact rfl
    | (refine And.intro ?_ ?_)
theorem rstrmROk : Ok rstrmRC := okOf (tab := [rnumRC, rflagRC, rglRC, rscnRC]) (fn := Tryz.f14) (orc := rstrmRO) (by simp; exact ⟨rnumROk, rflagROk, rglROk, rscnROk⟩) (by kernel_rfl) (by kernel_rfl) (fun _ => by exact Nat.le_of_ble_eq_true (by kernel_rfl)) fun y hy => Eq.mp (rstrmRV_eq y) (rstrmRH y hy)
end Go.Proofs.YtacolbfofamocaaGreat.sx
/- Contracts of what the statement holds against each other: rows, lists, scans, streams that are the same; a row with room behind it; what is small. -/
namespace Go.Proofs.YtacolbfofamocaaGreat.sx
open Go Go.RowKit
noncomputable section
def sambC : Con D where
  f := 7
  Y := By
  inp := fun args s => match args with
    | [a, _] => bnd (rowsOf D s 0 a) fun l => .ret (l : By)
    | _ => .fail
  pre := fun y => y.length ≤ 1073741824
  args := fun y => [.list 0 y, .list 0 y]
  heap := fun _ => []
  res := fun _ => .bool true
  heap' := fun _ => []
  nx0 := 0
  nx1 := 0
def sambO (y : sambC.Y) : Orc D := ⟨[], [], [(58, { X := Nat, keep := [0, 1], sl := fun i => [(5, .int .i64 i)], kp := [], pc := fun _ => [], nx := 0, inv := fun i => i ≤ y.length, me := fun i => y.length - i })], [], 1, []⟩
def sambV (y : sambC.Y) : Prop := vcOf [] Tryz.f7 sambC sambO y
def sthrC : Con D where
  f := 69
  Y := List Thread
  inp := fun args s => match args with
    | [a, _] => bnd (rowsOf D s 1 a) fun l => .ret (l : List Thread)
    | _ => .fail
  pre := fun y => y.length ≤ 1073741824
  args := fun y => [.list 1 y, .list 1 y]
  heap := fun _ => []
  res := fun _ => .bool true
  heap' := fun _ => []
  nx0 := 0
  nx1 := 0
def sthrO (y : sthrC.Y) : Orc D := ⟨[], [], [(58, { X := Nat, keep := [0, 1], sl := fun i => [(5, .int .i64 i)], kp := [], pc := fun _ => [], nx := 0, inv := fun i => i ≤ y.length, me := fun i => y.length - i })], [], 1, []⟩
def sthrV (y : sthrC.Y) : Prop := vcOf [] Tryz.f69 sthrC sthrO y
/-- no list is too long -/
def shortL (l : List Lst) : Prop := l.length ≤ 1073741824 ∧ ∀ x ∈ l, x.threads.length ≤ 1073741824
def slstC : Con D where
  f := 39
  Y := List Lst
  inp := fun args s => match args with
    | [a, _] => bnd (rowsOf D s 2 a) fun l => .ret (l : List Lst)
    | _ => .fail
  pre := shortL
  args := fun y => [.list 2 y, .list 2 y]
  heap := fun _ => []
  res := fun _ => .bool true
  heap' := fun _ => []
  nx0 := 0
  nx1 := 0
def slstO (y : slstC.Y) : Orc D := ⟨[], [], [(58, { X := Nat, keep := [0, 1], sl := fun i => [(5, .int .i64 i)], kp := [], pc := fun _ => [], nx := 0, inv := fun i => i ≤ y.length, me := fun i => y.length - i })], [], 1, []⟩
def slstV (y : slstC.Y) : Prop := vcOf [sthrC] Tryz.f39 slstC slstO y
def smchC : Con D where
  f := 70
  Y := Int × List Lst
  inp := fun args s => match args with
    | [a, _] => bnd (asAgg a) fun cs => match cs with
      | [p, l] => bnd2 (asI p) fun _ p => bnd (rowsOf D s 2 l) fun l => .ret (p, (l : List Lst))
      | _ => .fail
    | _ => .fail
  pre := fun y => shortL y.2
  args := fun y => [.agg [.int .i64 y.1, .list 2 y.2], .agg [.int .i64 y.1, .list 2 y.2]]
  heap := fun _ => []
  res := fun _ => .bool true
  heap' := fun _ => []
  nx0 := 0
  nx1 := 0
def smchO (_ : smchC.Y) : Orc D := noO ()
def smchV (y : smchC.Y) : Prop := vcOf [slstC] Tryz.f70 smchC smchO y
def shortS (x : Scn) : Prop := x.held.length ≤ 1073741824 ∧ shortL x.lists
def sscnC : Con D where
  f := 40
  Y := Scn
  inp := fun args s => match args with
    | [a, _] => bnd (asAgg a) fun cs => match cs with
      | [h, p, l] => scnIn s h p l
      | _ => .fail
    | _ => .fail
  pre := shortS
  args := fun y => [.agg (scnL y), .agg (scnL y)]
  heap := fun _ => []
  res := fun _ => .bool true
  heap' := fun _ => []
  nx0 := 0
  nx1 := 0
def sscnO (_ : sscnC.Y) : Orc D := noO ()
def sscnV (y : sscnC.Y) : Prop := vcOf [sambC, smchC] Tryz.f40 sscnC sscnO y
def strmIn (b : AV D.E) (s : St D.E) : C Strm := bnd (asAgg b) fun cs => match cs with
  | [t1, t2, t3, t4, t5, t6, t7, a1, a2, a3, b1, b2, b3, c1, c2, c3] => bnd2 (asI t1) fun _ t1 => bnd2 (asI t2) fun _ t2 => bnd2 (asT t3) fun t3 _ => bnd2 (asT t4) fun t4 _ => bnd2 (asI t5) fun _ t5 => bnd2 (asI t6) fun _ t6 => bnd (rowsOf D s 2 t7) fun t7 =>
    bnd (scnIn s a1 a2 a3) fun x => bnd (scnIn s b1 b2 b3) fun y => bnd (scnIn s c1 c2 c3) fun z => .ret ⟨t1, t2, t3, t4, t5, t6, (t7 : List Lst), x, y, z⟩
  | _ => .fail
def sstmC : Con D where
  f := 17
  Y := Strm
  inp := fun args s => match args with
    | [a, _] => strmIn a s
    | _ => .fail
  pre := fun y => shortL y.ends ∧ shortS y.cur ∧ shortS y.alt ∧ shortS y.con
  args := fun y => [.agg (strmL y), .agg (strmL y)]
  heap := fun _ => []
  res := fun _ => .bool true
  heap' := fun _ => []
  nx0 := 0
  nx1 := 0
def sstmO (_ : sstmC.Y) : Orc D := noO ()
def sstmV (y : sstmC.Y) : Prop := vcOf [slstC, sscnC] Tryz.f17 sstmC sstmO y
/-- a row with 80 more places -/
def roomF (y : By) : By := y ++ List.replicate 80 12
def roomP (y : By) (i : Nat) : By := y ++ (List.replicate i 12 ++ List.replicate (80 - i) 0)
def roomC : Con D where
  f := 6
  Y := By
  inp := fun args s => match args with
    | [a, _] => bnd (rowsOf D s 0 a) fun l => .ret (l : By)
    | _ => .fail
  pre := fun y => y.length ≤ 1073741824
  args := fun y => [.list 0 y, .num .u8 12]
  heap := fun _ => []
  res := fun y => .list 0 (roomF y)
  heap' := fun _ => []
  nx0 := 0
  nx1 := 0
def roomO (y : roomC.Y) : Orc D := ⟨[], [], [(122, { X := Nat, keep := [1], sl := fun i => [(5, .own 0 1 ((y.length : Int) + 80)), (6, .int .i64 ((y.length : Int) + i))], kp := [], pc := fun i => [(0, .arr 0 (roomP y i) 5 false)], nx := 1, inv := fun i => i ≤ 80, me := fun i => 80 - i })], [], 1, []⟩
def roomV (y : roomC.Y) : Prop := vcOf [] Tryz.f6 roomC roomO y
def intaC : Con D where
  f := 10
  Y := By
  inp := fun args s => match args with
    | [_, a, _] => bnd (rowsOf D s 0 a) fun l => .ret (l : By)
    | _ => .fail
  pre := fun y => y.length ≤ 1073741824
  args := fun y => [.list 0 (roomF y), .list 0 y, .num .u8 12]
  heap := fun _ => []
  res := fun _ => .bool true
  heap' := fun _ => []
  nx0 := 0
  nx1 := 0
def intaO (y : intaC.Y) : Orc D := ⟨[], [], [(58, { X := Nat, keep := [0, 1, 2], sl := fun i => [(7, .int .i64 ((y.length : Int) + i))], kp := [], pc := fun _ => [], nx := 0, inv := fun i => i ≤ 80, me := fun i => 80 - i })], [], 1, []⟩
def intaV (y : intaC.Y) : Prop := vcOf [sambC] Tryz.f10 intaC intaO y
def smallL (l : List Lst) : Bool := decide (l.length ≤ 12 ∧ ∀ x ∈ l, x.threads.length ≤ 500)
def smallF (x : Strm) : Bool := smallL x.ends && (smallL x.cur.lists && (smallL x.alt.lists && (smallL x.con.lists && (decide (x.cur.held.length < 20) && (decide (x.alt.held.length < 20) && decide (x.con.held.length < 20))))))
def smalC : Con D where
  f := 4
  Y := Strm
  inp := fun args s => match args with
    | [a] => strmIn a s
    | _ => .fail
  pre := fun _ => True
  args := fun y => [.agg (strmL y)]
  heap := fun _ => []
  res := fun y => .bool (smallF y)
  heap' := fun _ => []
  nx0 := 0
  nx1 := 0
def thrSm (l : List Lst) (k : Nat) : Prop := ∀ j, j < k → (gt dL0 l j).threads.length ≤ 500
def allL4 (y : Strm) : List (List Lst) := [y.ends, y.cur.lists, y.alt.lists, y.con.lists]
def lsAt (y : Strm) (i : Nat) : List Lst := gt [] (allL4 y) i
def smalO (y : smalC.Y) : Orc D := ⟨[], [], [(58, { X := Nat, keep := [1], sl := fun i => [(3, .list 12 (allL4 y)), (4, .int .i64 i)], kp := [0], pc := fun _ => [], nx := 1, inv := fun i => i ≤ 4 ∧ ∀ j, j < i → smallL (lsAt y j) = true, me := fun i => 4 - i })], [], 1,
  [(7462, ⟨Nat, fun i => { X := Nat, keep := [1, 3, 4], sl := fun k => [(5, .int .i64 k)], kp := [0], pc := fun _ => [], nx := 1, inv := fun k => k ≤ (lsAt y i).length ∧ thrSm (lsAt y i) k, me := fun k => (lsAt y i).length - k }⟩)]⟩
def smalV (y : smalC.Y) : Prop := vcOf [] Tryz.f4 smalC smalO y
end
end Go.Proofs.YtacolbfofamocaaGreat.sx
/- Conditions, as a tool printed them; that they are the functions' own the kernel computes. -/
namespace Go.Proofs.YtacolbfofamocaaGreat.sx
open Go Go.RowKit
def sambVC (y : List UInt8) : Prop :=
 (
  ((Bool.not (ieq (llen y) (llen y))) = true) →
  (Bool.false = true) ∧
  True) ∧
 (
  ((Bool.not (ieq (llen y) (llen y))) = false) →
  (
  ∃ z : Nat,
  Rfs (([y, y] : List (List UInt8))) (
  (@Eq Int (0 : Int) ((z : Nat) : Int)) ∧
  (Iv ((z : Nat) ≤ (List.length y))))) ∧
  (
  ∀ x : Nat,
  (Iv ((x : Nat) ≤ (List.length y))) →
  (
  ((ilt ((x : Nat) : Int) (llen y)) = true) →
  ((ile (0 : Int) ((x : Nat) : Int)) = true) ∧
  ((ilt ((x : Nat) : Int) (llen y)) = true) ∧
  ((ile (0 : Int) ((x : Nat) : Int)) = true) ∧
  ((ilt ((x : Nat) : Int) (llen y)) = true) ∧
  Rfs (([((UInt8.toNat (gt (0 : UInt8) y (Int.toNat ((x : Nat) : Int))) : Nat) : Int), ((UInt8.toNat (gt (0 : UInt8) y (Int.toNat ((x : Nat) : Int))) : Nat) : Int)] : List Int)) (
  (
  ((Bool.not (ieq ((UInt8.toNat (gt (0 : UInt8) y (Int.toNat ((x : Nat) : Int))) : Nat) : Int) ((UInt8.toNat (gt (0 : UInt8) y (Int.toNat ((x : Nat) : Int))) : Nat) : Int))) = true) →
  (Bool.false = true) ∧
  True) ∧
  (
  ((Bool.not (ieq ((UInt8.toNat (gt (0 : UInt8) y (Int.toNat ((x : Nat) : Int))) : Nat) : Int) ((UInt8.toNat (gt (0 : UInt8) y (Int.toNat ((x : Nat) : Int))) : Nat) : Int))) = false) →
  ∃ z : Nat,
  Rfs (([y, y] : List (List UInt8))) (
  (@Eq Int (iadd IntKind.i64 ((x : Nat) : Int) (1 : Int)) ((z : Nat) : Int)) ∧
  (Iv (((z : Nat) ≤ (List.length y)) ∧ ((List.length y : Nat) - z : Nat) < ((List.length y : Nat) - x))))))) ∧
  (
  ((ilt ((x : Nat) : Int) (llen y)) = false) →
  (Bool.true = true) ∧
  True)))
theorem sambV_eq : ∀ y, sambVC y = sambV y := fun y => by kernel_rfl
def sthrVC (y : List Thread) : Prop :=
 (
  ((Bool.not (ieq (llen y) (llen y))) = true) →
  (Bool.false = true) ∧
  True) ∧
 (
  ((Bool.not (ieq (llen y) (llen y))) = false) →
  (
  ∃ z : Nat,
  Rfs (([y, y] : List (List Thread))) (
  (@Eq Int (0 : Int) ((z : Nat) : Int)) ∧
  (Iv ((z : Nat) ≤ (List.length y))))) ∧
  (
  ∀ x : Nat,
  (Iv ((x : Nat) ≤ (List.length y))) →
  (
  ((ilt ((x : Nat) : Int) (llen y)) = true) →
  ((ile (0 : Int) ((x : Nat) : Int)) = true) ∧
  ((ilt ((x : Nat) : Int) (llen y)) = true) ∧
  ((ile (0 : Int) ((x : Nat) : Int)) = true) ∧
  ((ilt ((x : Nat) : Int) (llen y)) = true) ∧
  Rfs (([Thread.pc (gN dT0 y x)] ++ capsL (capsOf (gN dT0 y x)) ++ [Thread.pc (gN dT0 y x)] ++ capsL (capsOf (gN dT0 y x)) : List Int)) (
  (
  ((Bool.not (Bool.and (ieq (Thread.pc (gN dT0 y x)) (Thread.pc (gN dT0 y x))) (Bool.and (ieq (Thread.c0 (gN dT0 y x)) (Thread.c0 (gN dT0 y x))) (Bool.and (ieq (Thread.c1 (gN dT0 y x)) (Thread.c1 (gN dT0 y x))) (Bool.and (ieq (Thread.c2 (gN dT0 y x)) (Thread.c2 (gN dT0 y x))) (Bool.and (ieq (Thread.c3 (gN dT0 y x)) (Thread.c3 (gN dT0 y x))) (Bool.and (ieq (Thread.c4 (gN dT0 y x)) (Thread.c4 (gN dT0 y x))) (Bool.and (ieq (Thread.c5 (gN dT0 y x)) (Thread.c5 (gN dT0 y x))) (Bool.and (ieq (Thread.c6 (gN dT0 y x)) (Thread.c6 (gN dT0 y x))) (Bool.and (ieq (Thread.c7 (gN dT0 y x)) (Thread.c7 (gN dT0 y x))) (Bool.and (ieq (Thread.c8 (gN dT0 y x)) (Thread.c8 (gN dT0 y x))) (ieq (Thread.c9 (gN dT0 y x)) (Thread.c9 (gN dT0 y x)))))))))))))) = true) →
  (Bool.false = true) ∧
  True) ∧
  (
  ((Bool.not (Bool.and (ieq (Thread.pc (gN dT0 y x)) (Thread.pc (gN dT0 y x))) (Bool.and (ieq (Thread.c0 (gN dT0 y x)) (Thread.c0 (gN dT0 y x))) (Bool.and (ieq (Thread.c1 (gN dT0 y x)) (Thread.c1 (gN dT0 y x))) (Bool.and (ieq (Thread.c2 (gN dT0 y x)) (Thread.c2 (gN dT0 y x))) (Bool.and (ieq (Thread.c3 (gN dT0 y x)) (Thread.c3 (gN dT0 y x))) (Bool.and (ieq (Thread.c4 (gN dT0 y x)) (Thread.c4 (gN dT0 y x))) (Bool.and (ieq (Thread.c5 (gN dT0 y x)) (Thread.c5 (gN dT0 y x))) (Bool.and (ieq (Thread.c6 (gN dT0 y x)) (Thread.c6 (gN dT0 y x))) (Bool.and (ieq (Thread.c7 (gN dT0 y x)) (Thread.c7 (gN dT0 y x))) (Bool.and (ieq (Thread.c8 (gN dT0 y x)) (Thread.c8 (gN dT0 y x))) (ieq (Thread.c9 (gN dT0 y x)) (Thread.c9 (gN dT0 y x)))))))))))))) = false) →
  ∃ z : Nat,
  Rfs (([y, y] : List (List Thread))) (
  (@Eq Int (iadd IntKind.i64 ((x : Nat) : Int) (1 : Int)) ((z : Nat) : Int)) ∧
  (Iv (((z : Nat) ≤ (List.length y)) ∧ ((List.length y : Nat) - z : Nat) < ((List.length y : Nat) - x))))))) ∧
  (
  ((ilt ((x : Nat) : Int) (llen y)) = false) →
  (Bool.true = true) ∧
  True)))
theorem sthrV_eq : ∀ y, sthrVC y = sthrV y := fun y => by kernel_rfl
def slstVC (y : List Lst) : Prop :=
 (
  ((Bool.not (ieq (llen y) (llen y))) = true) →
  (Bool.false = true) ∧
  True) ∧
 (
  ((Bool.not (ieq (llen y) (llen y))) = false) →
  (
  ∃ z : Nat,
  Rfs (([y, y] : List (List Lst))) (
  (@Eq Int (0 : Int) ((z : Nat) : Int)) ∧
  (Iv ((z : Nat) ≤ (List.length y))))) ∧
  (
  ∀ x : Nat,
  (Iv ((x : Nat) ≤ (List.length y))) →
  (
  ((ilt ((x : Nat) : Int) (llen y)) = true) →
  ((ile (0 : Int) ((x : Nat) : Int)) = true) ∧
  ((ilt ((x : Nat) : Int) (llen y)) = true) ∧
  ((ile (0 : Int) ((x : Nat) : Int)) = true) ∧
  ((ilt ((x : Nat) : Int) (llen y)) = true) ∧
  (
  ((Bool.not (beq2 (Lst.done (gN dL0 y x)) (Lst.done (gN dL0 y x)))) = true) →
  Rfs (([Lst.done (gN dL0 y x), Lst.done (gN dL0 y x)] : List Bool)) (
  (Bool.false = true) ∧
  True)) ∧
  (
  ((Bool.not (beq2 (Lst.done (gN dL0 y x)) (Lst.done (gN dL0 y x)))) = false) →
  ((ile (0 : Int) ((x : Nat) : Int)) = true) ∧
  ((ilt ((x : Nat) : Int) (llen y)) = true) ∧
  ((ile (0 : Int) ((x : Nat) : Int)) = true) ∧
  ((ilt ((x : Nat) : Int) (llen y)) = true) ∧
  (
  ((Bool.not (Bool.and (ieq (Lst.c0 (gN dL0 y x)) (Lst.c0 (gN dL0 y x))) (Bool.and (ieq (Lst.c1 (gN dL0 y x)) (Lst.c1 (gN dL0 y x))) (Bool.and (ieq (Lst.c2 (gN dL0 y x)) (Lst.c2 (gN dL0 y x))) (Bool.and (ieq (Lst.c3 (gN dL0 y x)) (Lst.c3 (gN dL0 y x))) (Bool.and (ieq (Lst.c4 (gN dL0 y x)) (Lst.c4 (gN dL0 y x))) (Bool.and (ieq (Lst.c5 (gN dL0 y x)) (Lst.c5 (gN dL0 y x))) (Bool.and (ieq (Lst.c6 (gN dL0 y x)) (Lst.c6 (gN dL0 y x))) (Bool.and (ieq (Lst.c7 (gN dL0 y x)) (Lst.c7 (gN dL0 y x))) (Bool.and (ieq (Lst.c8 (gN dL0 y x)) (Lst.c8 (gN dL0 y x))) (ieq (Lst.c9 (gN dL0 y x)) (Lst.c9 (gN dL0 y x))))))))))))) = true) →
  Rfs (([Lst.done (gN dL0 y x), Lst.done (gN dL0 y x)] : List Bool)) (
  Rfs ((capsL (bestOf (gN dL0 y x)) ++ capsL (bestOf (gN dL0 y x)) : List Int)) (
  (Bool.false = true) ∧
  True))) ∧
  (
  ((Bool.not (Bool.and (ieq (Lst.c0 (gN dL0 y x)) (Lst.c0 (gN dL0 y x))) (Bool.and (ieq (Lst.c1 (gN dL0 y x)) (Lst.c1 (gN dL0 y x))) (Bool.and (ieq (Lst.c2 (gN dL0 y x)) (Lst.c2 (gN dL0 y x))) (Bool.and (ieq (Lst.c3 (gN dL0 y x)) (Lst.c3 (gN dL0 y x))) (Bool.and (ieq (Lst.c4 (gN dL0 y x)) (Lst.c4 (gN dL0 y x))) (Bool.and (ieq (Lst.c5 (gN dL0 y x)) (Lst.c5 (gN dL0 y x))) (Bool.and (ieq (Lst.c6 (gN dL0 y x)) (Lst.c6 (gN dL0 y x))) (Bool.and (ieq (Lst.c7 (gN dL0 y x)) (Lst.c7 (gN dL0 y x))) (Bool.and (ieq (Lst.c8 (gN dL0 y x)) (Lst.c8 (gN dL0 y x))) (ieq (Lst.c9 (gN dL0 y x)) (Lst.c9 (gN dL0 y x))))))))))))) = false) →
  ((ile (0 : Int) ((x : Nat) : Int)) = true) ∧
  ((ilt ((x : Nat) : Int) (llen y)) = true) ∧
  ((ile (0 : Int) ((x : Nat) : Int)) = true) ∧
  ((ilt ((x : Nat) : Int) (llen y)) = true) ∧
  (Iv ((List.length (Lst.threads (gN dL0 y x)) : Nat) ≤ 1073741824)) ∧
  Rfs (([Lst.threads (gN dL0 y x), Lst.threads (gN dL0 y x)] : List (List Thread))) (
  Rfs (([Lst.done (gN dL0 y x), Lst.done (gN dL0 y x)] : List Bool)) (
  Rfs ((capsL (bestOf (gN dL0 y x)) ++ capsL (bestOf (gN dL0 y x)) : List Int)) (
  Rfs (([Lst.threads (gN dL0 y x), Lst.threads (gN dL0 y x)] : List (List Thread))) (
  (
  ((Bool.not Bool.true) = true) →
  (Bool.false = true) ∧
  True) ∧
  (
  ((Bool.not Bool.true) = false) →
  ∃ z : Nat,
  Rfs (([y, y] : List (List Lst))) (
  (@Eq Int (iadd IntKind.i64 ((x : Nat) : Int) (1 : Int)) ((z : Nat) : Int)) ∧
  (Iv (((z : Nat) ≤ (List.length y)) ∧ ((List.length y : Nat) - z : Nat) < ((List.length y : Nat) - x)))))))))))) ∧
  (
  ((ilt ((x : Nat) : Int) (llen y)) = false) →
  (Bool.true = true) ∧
  True)))
theorem slstV_eq : ∀ y, slstVC y = slstV y := fun y => by kernel_rfl
def smchVC (y : Prod Int (List Lst)) : Prop :=
 (
  ((ieq y.1 y.1) = true) →
  (Iv (shortL y.2)) ∧
  Rfs (([y.2, y.2] : List (List Lst))) (
  (Bool.true = true) ∧
  True)) ∧
 (
  ((ieq y.1 y.1) = false) →
  (Bool.false = true) ∧
  True)
theorem smchV_eq : ∀ y, smchVC y = smchV y := fun y => by kernel_rfl
def sscnVC (y : Scn) : Prop :=
 (Iv ((List.length (Scn.held y) : Nat) ≤ 1073741824)) ∧
 Rfs (([Scn.held y, Scn.held y] : List (List UInt8))) (
  (
  (Bool.true = true) →
  (Iv (shortL (Scn.lists y))) ∧
  Rfs (([Scn.place y] : List Int)) (
  Rfs (([Scn.lists y] : List (List Lst))) (
  Rfs (([Scn.place y] : List Int)) (
  Rfs (([Scn.lists y] : List (List Lst))) (
  (Bool.true = true) ∧
  True))))) ∧
  (
  (Bool.true = false) →
  (Bool.false = true) ∧
  True))
theorem sscnV_eq : ∀ y, sscnVC y = sscnV y := fun y => by kernel_rfl
def sstmVC (y : Strm) : Prop :=
 (
  ((ieq (Strm.at_ y) (Strm.at_ y)) = true) →
  (
  ((ieq (Strm.line y) (Strm.line y)) = true) →
  (
  ((beq2 (Strm.long y) (Strm.long y)) = true) →
  (
  ((beq2 (Strm.opened y) (Strm.opened y)) = true) →
  (
  ((ieq (Strm.event y) (Strm.event y)) = true) →
  (
  ((ieq (Strm.size y) (Strm.size y)) = true) →
  (Iv (shortL (Strm.ends y))) ∧
  Rfs (([Strm.ends y, Strm.ends y] : List (List Lst))) (
  (
  (Bool.true = true) →
  (Iv (shortS (Strm.cur y))) ∧
  Rfs (([Scn.held (Strm.cur y)] : List (List UInt8))) (
  Rfs (([Scn.place (Strm.cur y)] : List Int)) (
  Rfs (([Scn.lists (Strm.cur y)] : List (List Lst))) (
  Rfs (([Scn.held (Strm.cur y)] : List (List UInt8))) (
  Rfs (([Scn.place (Strm.cur y)] : List Int)) (
  Rfs (([Scn.lists (Strm.cur y)] : List (List Lst))) (
  (
  (Bool.true = true) →
  (Iv (shortS (Strm.alt y))) ∧
  Rfs (([Scn.held (Strm.alt y)] : List (List UInt8))) (
  Rfs (([Scn.place (Strm.alt y)] : List Int)) (
  Rfs (([Scn.lists (Strm.alt y)] : List (List Lst))) (
  Rfs (([Scn.held (Strm.alt y)] : List (List UInt8))) (
  Rfs (([Scn.place (Strm.alt y)] : List Int)) (
  Rfs (([Scn.lists (Strm.alt y)] : List (List Lst))) (
  (
  (Bool.true = true) →
  (Iv (shortS (Strm.con y))) ∧
  Rfs (([Scn.held (Strm.con y)] : List (List UInt8))) (
  Rfs (([Scn.place (Strm.con y)] : List Int)) (
  Rfs (([Scn.lists (Strm.con y)] : List (List Lst))) (
  Rfs (([Scn.held (Strm.con y)] : List (List UInt8))) (
  Rfs (([Scn.place (Strm.con y)] : List Int)) (
  Rfs (([Scn.lists (Strm.con y)] : List (List Lst))) (
  (Bool.true = true) ∧
  True))))))) ∧
  (
  (Bool.true = false) →
  (Bool.false = true) ∧
  True)))))))) ∧
  (
  (Bool.true = false) →
  (Bool.false = true) ∧
  True)))))))) ∧
  (
  (Bool.true = false) →
  (Bool.false = true) ∧
  True))) ∧
  (
  ((ieq (Strm.size y) (Strm.size y)) = false) →
  (Bool.false = true) ∧
  True)) ∧
  (
  ((ieq (Strm.event y) (Strm.event y)) = false) →
  (Bool.false = true) ∧
  True)) ∧
  (
  ((beq2 (Strm.opened y) (Strm.opened y)) = false) →
  (Bool.false = true) ∧
  True)) ∧
  (
  ((beq2 (Strm.long y) (Strm.long y)) = false) →
  (Bool.false = true) ∧
  True)) ∧
  (
  ((ieq (Strm.line y) (Strm.line y)) = false) →
  (Bool.false = true) ∧
  True)) ∧
 (
  ((ieq (Strm.at_ y) (Strm.at_ y)) = false) →
  (Bool.false = true) ∧
  True)
theorem sstmV_eq : ∀ y, sstmVC y = sstmV y := fun y => by kernel_rfl
def roomVC (y : List UInt8) : Prop :=
 ((ile (0 : Int) (iadd IntKind.i64 (llen y) (80 : Int))) = true) ∧
 ((ile (iadd IntKind.i64 (llen y) (80 : Int)) (iadd IntKind.i64 (llen y) (80 : Int))) = true) ∧
 ((fits (iadd IntKind.i64 (llen y) (80 : Int)) 1) = true) ∧
 (
  ∃ z : Nat,
  (@Eq Int (llen (lrep (iadd IntKind.i64 (llen y) (80 : Int)) (b8 (0 : Int)))) ((((List.length y : Nat) : Int) : Int) + (80 : Int))) ∧
  (@Eq Int (llen y) ((((List.length y : Nat) : Int) : Int) + ((z : Nat) : Int))) ∧
  (@Eq (List UInt8) (lover (lrep (iadd IntKind.i64 (llen y) (80 : Int)) (b8 (0 : Int))) (0 : Int) (llen (lrep (iadd IntKind.i64 (llen y) (80 : Int)) (b8 (0 : Int)))) y) (roomP y z)) ∧
  (Iv ((z : Nat) ≤ 80))) ∧
 (
  ∀ x : Nat,
  (Iv ((x : Nat) ≤ 80)) →
  (
  ((ilt ((((List.length y : Nat) : Int) : Int) + ((x : Nat) : Int)) ((((List.length y : Nat) : Int) : Int) + (80 : Int))) = true) →
  ((ile (0 : Int) ((((List.length y : Nat) : Int) : Int) + ((x : Nat) : Int))) = true) ∧
  ((ilt ((((List.length y : Nat) : Int) : Int) + ((x : Nat) : Int)) ((((List.length y : Nat) : Int) : Int) + (80 : Int))) = true) ∧
  ∃ z : Nat,
  Rfs (([(((List.length y : Nat) : Int) : Int) + (80 : Int)] : List Int)) (
  (@Eq Int (iadd IntKind.i64 ((((List.length y : Nat) : Int) : Int) + ((x : Nat) : Int)) (1 : Int)) ((((List.length y : Nat) : Int) : Int) + ((z : Nat) : Int))) ∧
  (@Eq (List UInt8) (lset (roomP y x) (Int.toNat ((((List.length y : Nat) : Int) : Int) + ((x : Nat) : Int))) (b8 (12 : Int))) (roomP y z)) ∧
  (Iv (((z : Nat) ≤ 80) ∧ ((80 : Nat) - z : Nat) < ((80 : Nat) - x))))) ∧
  (
  ((ilt ((((List.length y : Nat) : Int) : Int) + ((x : Nat) : Int)) ((((List.length y : Nat) : Int) : Int) + (80 : Int))) = false) →
  (@Eq (List UInt8) (roomP y x) (roomF y)) ∧
  True))
theorem roomV_eq : ∀ y, roomVC y = roomV y := fun y => by kernel_rfl
def intaVC (y : List UInt8) : Prop :=
 (
  ((Bool.not (ieq (llen (roomF y)) (iadd IntKind.i64 (llen y) (80 : Int)))) = true) →
  (Bool.false = true) ∧
  True) ∧
 (
  ((Bool.not (ieq (llen (roomF y)) (iadd IntKind.i64 (llen y) (80 : Int)))) = false) →
  ((ile (0 : Int) (llen y)) = true) ∧
  ((ile (llen y) (llen (roomF y))) = true) ∧
  (Iv ((List.length (ltake (roomF y) (llen y)) : Nat) ≤ 1073741824)) ∧
  Rfs (([ltake (roomF y) (llen y)] : List (List UInt8))) (
  (@Eq (List UInt8) y (ltake (roomF y) (llen y))) ∧
  (
  ((Bool.not Bool.true) = true) →
  (Bool.false = true) ∧
  True) ∧
  (
  ((Bool.not Bool.true) = false) →
  (
  ∃ z : Nat,
  Rfs (([roomF y, y] : List (List UInt8))) (
  (@Eq Int (llen y) ((((List.length y : Nat) : Int) : Int) + ((z : Nat) : Int))) ∧
  (Iv ((z : Nat) ≤ 80)))) ∧
  (
  ∀ x : Nat,
  (Iv ((x : Nat) ≤ 80)) →
  (
  ((ilt ((((List.length y : Nat) : Int) : Int) + ((x : Nat) : Int)) (llen (roomF y))) = true) →
  ((ile (0 : Int) ((((List.length y : Nat) : Int) : Int) + ((x : Nat) : Int))) = true) ∧
  ((ilt ((((List.length y : Nat) : Int) : Int) + ((x : Nat) : Int)) (llen (roomF y))) = true) ∧
  (
  ((Bool.not (ieq ((UInt8.toNat (gt (0 : UInt8) (roomF y) (Int.toNat ((((List.length y : Nat) : Int) : Int) + ((x : Nat) : Int)))) : Nat) : Int) (12 : Int))) = true) →
  (Bool.false = true) ∧
  True) ∧
  (
  ((Bool.not (ieq ((UInt8.toNat (gt (0 : UInt8) (roomF y) (Int.toNat ((((List.length y : Nat) : Int) : Int) + ((x : Nat) : Int)))) : Nat) : Int) (12 : Int))) = false) →
  ∃ z : Nat,
  Rfs (([roomF y, y] : List (List UInt8))) (
  (@Eq Int (iadd IntKind.i64 ((((List.length y : Nat) : Int) : Int) + ((x : Nat) : Int)) (1 : Int)) ((((List.length y : Nat) : Int) : Int) + ((z : Nat) : Int))) ∧
  (Iv (((z : Nat) ≤ 80) ∧ ((80 : Nat) - z : Nat) < ((80 : Nat) - x)))))) ∧
  (
  ((ilt ((((List.length y : Nat) : Int) : Int) + ((x : Nat) : Int)) (llen (roomF y))) = false) →
  (Bool.true = true) ∧
  True)))))
theorem intaV_eq : ∀ y, intaVC y = intaV y := fun y => by kernel_rfl
def smalVC (y : Strm) : Prop :=
 (
  ∃ z : Nat,
  (@Eq (List (List Lst)) ((Strm.ends y) :: ((Scn.lists (Strm.cur y)) :: ((Scn.lists (Strm.alt y)) :: ((Scn.lists (Strm.con y)) :: ([] : List (List Lst)))))) (allL4 y)) ∧
  (@Eq Int (0 : Int) ((z : Nat) : Int)) ∧
  Rfs (([Strm.at_ y, Strm.line y] : List Int)) (
  Rfs (([Strm.long y, Strm.opened y] : List Bool)) (
  Rfs (([Strm.event y, Strm.size y] : List Int)) (
  Rfs (([Strm.ends y] : List (List Lst))) (
  Rfs (([Scn.held (Strm.cur y)] : List (List UInt8))) (
  Rfs (([Scn.place (Strm.cur y)] : List Int)) (
  Rfs (([Scn.lists (Strm.cur y)] : List (List Lst))) (
  Rfs (([Scn.held (Strm.alt y)] : List (List UInt8))) (
  Rfs (([Scn.place (Strm.alt y)] : List Int)) (
  Rfs (([Scn.lists (Strm.alt y)] : List (List Lst))) (
  Rfs (([Scn.held (Strm.con y)] : List (List UInt8))) (
  Rfs (([Scn.place (Strm.con y)] : List Int)) (
  Rfs (([Scn.lists (Strm.con y)] : List (List Lst))) (
  (Iv (((z : Nat) ≤ 4) ∧ (∀ j : Nat, (Nat.le (Nat.succ j) z) → (smallL (lsAt y j)) = true))))))))))))))))) ∧
 (
  ∀ x : Nat,
  (Iv (((x : Nat) ≤ 4) ∧ (∀ j : Nat, (Nat.le (Nat.succ j) x) → (smallL (lsAt y j)) = true))) →
  (
  ((ilt ((x : Nat) : Int) (llen (allL4 y))) = true) →
  ((ile (0 : Int) ((x : Nat) : Int)) = true) ∧
  ((ilt ((x : Nat) : Int) (llen (allL4 y))) = true) ∧
  (
  ((ilt (12 : Int) (llen (gt ([] : List Lst) (allL4 y) (Int.toNat ((x : Nat) : Int))))) = true) →
  (@Eq Bool Bool.false (smallF y)) ∧
  True) ∧
  (
  ((ilt (12 : Int) (llen (gt ([] : List Lst) (allL4 y) (Int.toNat ((x : Nat) : Int))))) = false) →
  ∃ z : Nat,
  (
  ∃ z1 : Nat,
  Rfs (([allL4 y] : List (List (List Lst)))) (
  Rfs (([((x : Nat) : Int)] : List Int)) (
  (@Eq Int (0 : Int) ((z1 : Nat) : Int)) ∧
  Rfs (([Strm.at_ y, Strm.line y] : List Int)) (
  Rfs (([Strm.long y, Strm.opened y] : List Bool)) (
  Rfs (([Strm.event y, Strm.size y] : List Int)) (
  Rfs (([Strm.ends y] : List (List Lst))) (
  Rfs (([Scn.held (Strm.cur y)] : List (List UInt8))) (
  Rfs (([Scn.place (Strm.cur y)] : List Int)) (
  Rfs (([Scn.lists (Strm.cur y)] : List (List Lst))) (
  Rfs (([Scn.held (Strm.alt y)] : List (List UInt8))) (
  Rfs (([Scn.place (Strm.alt y)] : List Int)) (
  Rfs (([Scn.lists (Strm.alt y)] : List (List Lst))) (
  Rfs (([Scn.held (Strm.con y)] : List (List UInt8))) (
  Rfs (([Scn.place (Strm.con y)] : List Int)) (
  Rfs (([Scn.lists (Strm.con y)] : List (List Lst))) (
  (Iv (((z1 : Nat) ≤ (List.length (lsAt y z))) ∧ thrSm (lsAt y z) z1)))))))))))))))))) ∧
  (
  ∀ x1 : Nat,
  (Iv (((x1 : Nat) ≤ (List.length (lsAt y z))) ∧ thrSm (lsAt y z) x1)) →
  ((ile (0 : Int) ((x : Nat) : Int)) = true) ∧
  ((ilt ((x : Nat) : Int) (llen (allL4 y))) = true) ∧
  (
  ((ilt ((x1 : Nat) : Int) (llen (gt ([] : List Lst) (allL4 y) (Int.toNat ((x : Nat) : Int))))) = true) →
  ((ile (0 : Int) ((x : Nat) : Int)) = true) ∧
  ((ilt ((x : Nat) : Int) (llen (allL4 y))) = true) ∧
  ((ile (0 : Int) ((x1 : Nat) : Int)) = true) ∧
  ((ilt ((x1 : Nat) : Int) (llen (gt ([] : List Lst) (allL4 y) (Int.toNat ((x : Nat) : Int))))) = true) ∧
  (
  ((ilt (500 : Int) (llen (Lst.threads (gN dL0 (gt ([] : List Lst) (allL4 y) (Int.toNat ((x : Nat) : Int))) x1)))) = true) →
  (@Eq Bool Bool.false (smallF y)) ∧
  True) ∧
  (
  ((ilt (500 : Int) (llen (Lst.threads (gN dL0 (gt ([] : List Lst) (allL4 y) (Int.toNat ((x : Nat) : Int))) x1)))) = false) →
  ∃ z1 : Nat,
  Rfs (([allL4 y] : List (List (List Lst)))) (
  Rfs (([((x : Nat) : Int)] : List Int)) (
  (@Eq Int (iadd IntKind.i64 ((x1 : Nat) : Int) (1 : Int)) ((z1 : Nat) : Int)) ∧
  Rfs (([Strm.at_ y, Strm.line y] : List Int)) (
  Rfs (([Strm.long y, Strm.opened y] : List Bool)) (
  Rfs (([Strm.event y, Strm.size y] : List Int)) (
  Rfs (([Strm.ends y] : List (List Lst))) (
  Rfs (([Scn.held (Strm.cur y)] : List (List UInt8))) (
  Rfs (([Scn.place (Strm.cur y)] : List Int)) (
  Rfs (([Scn.lists (Strm.cur y)] : List (List Lst))) (
  Rfs (([Scn.held (Strm.alt y)] : List (List UInt8))) (
  Rfs (([Scn.place (Strm.alt y)] : List Int)) (
  Rfs (([Scn.lists (Strm.alt y)] : List (List Lst))) (
  Rfs (([Scn.held (Strm.con y)] : List (List UInt8))) (
  Rfs (([Scn.place (Strm.con y)] : List Int)) (
  Rfs (([Scn.lists (Strm.con y)] : List (List Lst))) (
  (Iv ((((z1 : Nat) ≤ (List.length (lsAt y z))) ∧ thrSm (lsAt y z) z1) ∧ ((List.length (lsAt y z) : Nat) - z1 : Nat) < ((List.length (lsAt y z) : Nat) - x1)))))))))))))))))))) ∧
  (
  ((ilt ((x1 : Nat) : Int) (llen (gt ([] : List Lst) (allL4 y) (Int.toNat ((x : Nat) : Int))))) = false) →
  ∃ z1 : Nat,
  Rfs (([allL4 y] : List (List (List Lst)))) (
  (@Eq Int (iadd IntKind.i64 ((x : Nat) : Int) (1 : Int)) ((z1 : Nat) : Int)) ∧
  Rfs (([Strm.at_ y, Strm.line y] : List Int)) (
  Rfs (([Strm.long y, Strm.opened y] : List Bool)) (
  Rfs (([Strm.event y, Strm.size y] : List Int)) (
  Rfs (([Strm.ends y] : List (List Lst))) (
  Rfs (([Scn.held (Strm.cur y)] : List (List UInt8))) (
  Rfs (([Scn.place (Strm.cur y)] : List Int)) (
  Rfs (([Scn.lists (Strm.cur y)] : List (List Lst))) (
  Rfs (([Scn.held (Strm.alt y)] : List (List UInt8))) (
  Rfs (([Scn.place (Strm.alt y)] : List Int)) (
  Rfs (([Scn.lists (Strm.alt y)] : List (List Lst))) (
  Rfs (([Scn.held (Strm.con y)] : List (List UInt8))) (
  Rfs (([Scn.place (Strm.con y)] : List Int)) (
  Rfs (([Scn.lists (Strm.con y)] : List (List Lst))) (
  (Iv ((((z1 : Nat) ≤ 4) ∧ (∀ j : Nat, (Nat.le (Nat.succ j) z1) → (smallL (lsAt y j)) = true)) ∧ ((4 : Nat) - z1 : Nat) < ((4 : Nat) - x))))))))))))))))))))) ∧
  (
  ((ilt ((x : Nat) : Int) (llen (allL4 y))) = false) →
  (
  ((ilt (llen (Scn.held (Strm.cur y))) (20 : Int)) = true) →
  (
  ((ilt (llen (Scn.held (Strm.alt y))) (20 : Int)) = true) →
  (@Eq Bool (ilt (llen (Scn.held (Strm.con y))) (20 : Int)) (smallF y)) ∧
  True) ∧
  (
  ((ilt (llen (Scn.held (Strm.alt y))) (20 : Int)) = false) →
  (@Eq Bool Bool.false (smallF y)) ∧
  True)) ∧
  (
  ((ilt (llen (Scn.held (Strm.cur y))) (20 : Int)) = false) →
  (@Eq Bool Bool.false (smallF y)) ∧
  True)))
theorem smalV_eq : ∀ y, smalVC y = smalV y := fun y => by kernel_rfl
end Go.Proofs.YtacolbfofamocaaGreat.sx
/- What the statement holds against each other: the contracts hold. -/
namespace Go.Proofs.YtacolbfofamocaaGreat.sx
open Go Go.RowKit
set_option maxRecDepth 100000
theorem ieq_self (a : Int) : ieq a a = true := ieq_t.2 rfl
theorem beq2_self (a : Bool) : beq2 a a = true := by cases a <;> rfl
theorem sambH (y : By) (hy : sambC.pre y) : sambVC y := by
  have h0 : y.length ≤ 1073741824 := hy
  unfold sambVC
  simp only [Rfs_eq, ieq_self, Bool.not_true, Bool.false_eq_true, false_implies, true_and, and_true, true_implies, ilt_t, ilt_f, ile_t, llen_eq, implies_true]
  refine ⟨⟨0, rfl, ⟨Nat.zero_le _⟩⟩, fun x hx h1 => ?_⟩
  exact ⟨by omega, h1, by omega, h1, x + 1, iadd64 (by omega) (by omega), ⟨by omega, by omega⟩⟩
theorem sambOk : Ok sambC := okOf (tab := []) (fn := Tryz.f7) (orc := sambO) (by simp) (by kernel_rfl) (by kernel_rfl) (fun _ => by exact Nat.le_of_ble_eq_true (by kernel_rfl)) fun y hy => Eq.mp (sambV_eq y) (sambH y hy)
theorem sthrH (y : List Thread) (hy : sthrC.pre y) : sthrVC y := by
  have h0 : y.length ≤ 1073741824 := hy
  unfold sthrVC
  simp only [Rfs_eq, ieq_self, Bool.and_self, Bool.not_true, Bool.false_eq_true, false_implies, true_and, and_true, true_implies, ilt_t, ilt_f, ile_t, llen_eq, implies_true]
  refine ⟨⟨0, rfl, ⟨Nat.zero_le _⟩⟩, fun x hx h1 => ?_⟩
  exact ⟨by omega, h1, by omega, h1, x + 1, iadd64 (by omega) (by omega), ⟨by omega, by omega⟩⟩
theorem sthrOk : Ok sthrC := okOf (tab := []) (fn := Tryz.f69) (orc := sthrO) (by simp) (by kernel_rfl) (by kernel_rfl) (fun _ => by exact Nat.le_of_ble_eq_true (by kernel_rfl)) fun y hy => Eq.mp (sthrV_eq y) (sthrH y hy)
theorem slstH (y : List Lst) (hy : slstC.pre y) : slstVC y := by
  have h0 : y.length ≤ 1073741824 := hy.1
  unfold slstVC
  simp only [Rfs_eq, ieq_self, beq2_self, Bool.and_self, Bool.not_true, Bool.false_eq_true, false_implies, true_and, and_true, true_implies, ilt_t, ilt_f, ile_t, llen_eq, implies_true]
  refine ⟨⟨0, rfl, ⟨Nat.zero_le _⟩⟩, fun x hx h1 => ?_⟩
  have hx2 : x < y.length := by omega
  refine ⟨by omega, h1, by omega, h1, by omega, h1, by omega, h1, by omega, h1, by omega, h1, ⟨?_⟩, x + 1, iadd64 (by omega) (by omega), ⟨by omega, by omega⟩⟩
  rw [gN_eq, gt_get hx2]
  exact hy.2 _ (List.getElem_mem hx2)
theorem slstOk : Ok slstC := okOf (tab := [sthrC]) (fn := Tryz.f39) (orc := slstO) (by simp; exact sthrOk) (by kernel_rfl) (by kernel_rfl) (fun _ => by exact Nat.le_of_ble_eq_true (by kernel_rfl)) fun y hy => Eq.mp (slstV_eq y) (slstH y hy)
theorem smchH (y : Int × List Lst) (hy : smchC.pre y) : smchVC y := by
  unfold smchVC
  simp [ieq_self]
  exact ⟨hy⟩
theorem smchOk : Ok smchC := okOf (tab := [slstC]) (fn := Tryz.f70) (orc := smchO) (by simp; exact slstOk) (by kernel_rfl) (by kernel_rfl) (fun _ => by exact Nat.le_of_ble_eq_true (by kernel_rfl)) fun y hy => Eq.mp (smchV_eq y) (smchH y hy)
theorem sscnH (y : Scn) (hy : sscnC.pre y) : sscnVC y := by
  unfold sscnVC
  simp
  exact ⟨⟨hy.1⟩, ⟨hy.2⟩⟩
theorem sscnOk : Ok sscnC := okOf (tab := [sambC, smchC]) (fn := Tryz.f40) (orc := sscnO) (by simp; exact ⟨sambOk, smchOk⟩) (by kernel_rfl) (by kernel_rfl) (fun _ => by exact Nat.le_of_ble_eq_true (by kernel_rfl)) fun y hy => Eq.mp (sscnV_eq y) (sscnH y hy)
theorem sstmH (y : Strm) (hy : sstmC.pre y) : sstmVC y := by
  unfold sstmVC
  simp [ieq_self, beq2_self]
  exact ⟨⟨hy.1⟩, ⟨hy.2.1⟩, ⟨hy.2.2.1⟩, ⟨hy.2.2.2⟩⟩
theorem sstmOk : Ok sstmC := okOf (tab := [slstC, sscnC]) (fn := Tryz.f17) (orc := sstmO) (by simp; exact ⟨slstOk, sscnOk⟩) (by kernel_rfl) (by kernel_rfl) (fun _ => by exact Nat.le_of_ble_eq_true (by kernel_rfl)) fun y hy => Eq.mp (sstmV_eq y) (sstmH y hy)
theorem roomF_len (y : By) : (roomF y).length = y.length + 80 := by unfold roomF; simp
theorem roomH (y : By) (hy : roomC.pre y) : roomVC y := by
  have h0 : y.length ≤ 1073741824 := hy
  unfold roomVC
  have hq : iadd IntKind.i64 (y.length : Int) 80 = (y.length : Int) + 80 := iadd64 (by omega) (by omega)
  have e0 : b8 (0 : Int) = 0 := rfl
  have e12 : b8 (12 : Int) = 12 := rfl
  have hl : ((List.length (lrep ((y.length : Int) + 80) (0 : UInt8)) : Nat) : Int) = (y.length : Int) + 80 := by unfold lrep; rw [List.length_replicate]; omega
  simp only [Rfs_eq, llen_eq, hq, e0, e12, hl, true_and, and_true, ilt_t, ilt_f, ile_t, fits_t]
  refine ⟨by omega, Int.le_refl _, by omega, ⟨0, by simp, ?_, ⟨by omega⟩⟩, fun x hx => ⟨fun h1 => ⟨by omega, h1, x + 1, ?_, ?_, ⟨by omega, by omega⟩⟩, fun h1 => ?_⟩⟩
  · unfold lover lrep roomP
    have e1 : ((y.length : Int) + 80).toNat = y.length + 80 := by omega
    have e2 : y.take (y.length + 80) = y := List.take_of_length_le (by omega)
    rw [e1, e2]
    simp
  · rw [iadd64 (by omega) (by omega)]; omega
  · have hx2 : x < 80 := by omega
    have e1 : ((y.length : Int) + (x : Int)).toNat = y.length + x := by omega
    unfold lset roomP
    rw [e1, List.set_append_right _ _ (by omega), show y.length + x - y.length = x by omega, List.set_append_right _ _ (by simp)]
    congr 1
    rw [List.length_replicate, Nat.sub_self, show 80 - x = (80 - (x + 1)) + 1 by omega, List.replicate_succ, List.set_cons_zero, List.replicate_succ', List.append_assoc]
    rfl
  · have : x = 80 := by have := hx.out; omega
    subst this
    unfold roomP roomF
    simp
theorem roomOk : Ok roomC := okOf (tab := []) (fn := Tryz.f6) (orc := roomO) (by simp) (by kernel_rfl) (by kernel_rfl) (fun _ => by exact Nat.le_of_ble_eq_true (by kernel_rfl)) fun y hy => Eq.mp (roomV_eq y) (roomH y hy)
theorem intaH (y : By) (hy : intaC.pre y) : intaVC y := by
  have h0 : y.length ≤ 1073741824 := hy
  unfold intaVC
  have hq : iadd IntKind.i64 (y.length : Int) 80 = (y.length : Int) + 80 := iadd64 (by omega) (by omega)
  have hl : (((roomF y).length : Nat) : Int) = (y.length : Int) + 80 := by rw [roomF_len]; omega
  have ht : ltake (roomF y) (y.length : Int) = y := by unfold ltake roomF; simp
  have hg : ∀ x : Nat, x < 80 → gt (0 : UInt8) (roomF y) ((y.length : Int) + (x : Int)).toNat = 12 := fun x hx => by
    have e1 : ((y.length : Int) + (x : Int)).toNat = y.length + x := by omega
    unfold gt roomF
    rw [e1, List.getD_eq_getElem?_getD, List.getElem?_append_right (by omega), show y.length + x - y.length = x by omega, List.getElem?_replicate_of_lt hx]
    rfl
  simp only [Rfs_eq, llen_eq, hq, hl, ht, ieq_self, Bool.not_true, Bool.false_eq_true, false_implies, true_and, and_true, true_implies, ilt_t, ilt_f, ile_t, implies_true]
  refine ⟨by omega, by omega, ⟨h0⟩, ⟨0, by simp, ⟨by omega⟩⟩, fun x hx h1 => ?_⟩
  have hx2 : x < 80 := by omega
  rw [hg x hx2]
  refine ⟨by omega, h1, fun h => by simp [ieq] at h, fun _ => ⟨x + 1, ?_, ⟨by omega, by omega⟩⟩⟩
  rw [iadd64 (by omega) (by omega)]; omega
theorem intaOk : Ok intaC := okOf (tab := [sambC]) (fn := Tryz.f10) (orc := intaO) (by simp; exact sambOk) (by kernel_rfl) (by kernel_rfl) (fun _ => by exact Nat.le_of_ble_eq_true (by kernel_rfl)) fun y hy => Eq.mp (intaV_eq y) (intaH y hy)
theorem smallF_eq (y : Strm) : smallF y = true ↔ (∀ j, j < 4 → smallL (lsAt y j) = true) ∧ y.cur.held.length < 20 ∧ y.alt.held.length < 20 ∧ y.con.held.length < 20 := by
  have e : (∀ j, j < 4 → smallL (lsAt y j) = true) ↔ smallL y.ends = true ∧ smallL y.cur.lists = true ∧ smallL y.alt.lists = true ∧ smallL y.con.lists = true := by
    refine ⟨fun h => ⟨h 0 (by omega), h 1 (by omega), h 2 (by omega), h 3 (by omega)⟩, fun ⟨h0, h1, h2, h3⟩ j hj => ?_⟩
    match j, hj with
    | 0, _ => exact h0
    | 1, _ => exact h1
    | 2, _ => exact h2
    | 3, _ => exact h3
  rw [e]
  unfold smallF
  simp only [Bool.and_eq_true, decide_eq_true_eq, and_assoc]
theorem smallL_iff (l : List Lst) : smallL l = true ↔ l.length ≤ 12 ∧ ∀ x ∈ l, x.threads.length ≤ 500 := by unfold smallL; rw [decide_eq_true_eq]
theorem small_no {y : Strm} {x : Nat} (hx : x < 4) (h : ¬ smallL (lsAt y x) = true) : false = smallF y := by
  cases e : smallF y with
  | false => rfl
  | true => exact absurd (((smallF_eq y).1 e).1 x hx) h
theorem smalH (y : Strm) (_hy : smalC.pre y) : smalVC y := by
  unfold smalVC
  have hl : ((allL4 y).length : Int) = 4 := rfl
  simp only [Rfs_eq, gN_eq, llen_eq, hl, and_true, ilt_t, ilt_f, ile_t]
  refine ⟨⟨0, rfl, rfl, ⟨Nat.zero_le _, fun j hj => absurd hj (Nat.not_lt_zero j)⟩⟩, fun x hx => ⟨fun h1 => ⟨by omega, h1, fun h2 => ?_, fun h2 => ⟨x, ⟨0, rfl, ⟨Nat.zero_le _, fun j hj => absurd hj (Nat.not_lt_zero j)⟩⟩, fun k hk => ⟨by omega, h1, fun h3 => ⟨by omega, h1, by omega, h3, fun h4 => ?_, fun h4 => ⟨k + 1, ?_, ⟨⟨?_, ?_⟩, ?_⟩⟩⟩, fun h3 => ⟨x + 1, ?_, ⟨⟨by omega, fun j hj => ?_⟩, by omega⟩⟩⟩⟩⟩, fun h1 => ?_⟩⟩
  · refine small_no (x := x) (by omega) fun h => ?_
    have h5 := ((smallL_iff _).1 h).1
    have h6 : (12 : Int) < ((lsAt y x).length : Int) := h2
    omega
  · refine small_no (x := x) (by omega) fun h => ?_
    have h3 : (k : Int) < ((lsAt y x).length : Int) := h3
    have hk2 : k < (lsAt y x).length := by omega
    have h5 := ((smallL_iff _).1 h).2 _ (List.getElem_mem hk2)
    have h4 : (500 : Int) < (((gt dL0 (lsAt y x) k).threads.length : Nat) : Int) := h4
    rw [gt_get hk2] at h4
    omega
  · have h3 : (k : Int) < ((lsAt y x).length : Int) := h3
    have := hk.out.1
    have h2 : ((lsAt y x).length : Int) ≤ 12 := h2
    exact iadd64 (by omega) (by omega)
  · have h3 : (k : Int) < ((lsAt y x).length : Int) := h3
    omega
  · intro j hj
    have h4 : (((gt dL0 (lsAt y x) k).threads.length : Nat) : Int) ≤ 500 := h4
    by_cases e : j = k
    · rw [e]; omega
    · exact hk.out.2 j (by omega)
  · have h3 : (k : Int) < ((lsAt y x).length : Int) := h3
    omega
  · exact iadd64 (by omega) (by omega)
  · by_cases e : j = x
    · rw [e, smallL_iff]
      have h2 : ((lsAt y x).length : Int) ≤ 12 := h2
      have h3 : ((lsAt y x).length : Int) ≤ (k : Int) := h3
      refine ⟨by omega, fun t ht => ?_⟩
      obtain ⟨i, hi, rfl⟩ := List.getElem_of_mem ht
      rw [← gt_get (d := dL0) hi]
      exact hk.out.2 i (by omega)
    · exact hx.out.2 j (show j < x by have : j < x + 1 := hj; omega)
  · have hx4 : x = 4 := by have := hx.out.1; omega
    have ha := hx.out.2
    rw [hx4] at ha
    have key : smallF y = (ilt (y.cur.held.length : Int) 20 && (ilt (y.alt.held.length : Int) 20 && ilt (y.con.held.length : Int) 20)) := by
      rw [Bool.eq_iff_iff, smallF_eq]
      simp only [Bool.and_eq_true, ilt_t]
      constructor
      · rintro ⟨_, h1, h2, h3⟩
        exact ⟨by omega, by omega, by omega⟩
      · rintro ⟨h1, h2, h3⟩
        exact ⟨fun j hj => ha j hj, by omega, by omega, by omega⟩
    rw [key]
    refine ⟨fun h2 => ⟨fun h3 => ?_, fun h3 => ?_⟩, fun h2 => ?_⟩
    · rw [ilt_t.2 h2, ilt_t.2 h3]; rfl
    · rw [ilt_t.2 h2, ilt_f.2 h3]; rfl
    · rw [ilt_f.2 h2]; rfl
theorem smalOk : Ok smalC := okOf (tab := []) (fn := Tryz.f4) (orc := smalO) (by simp) (by kernel_rfl) (by kernel_rfl) (fun _ => by exact Nat.le_of_ble_eq_true (by kernel_rfl)) fun y hy => Eq.mp (smalV_eq y) (smalH y hy)
end Go.Proofs.YtacolbfofamocaaGreat.sx
/- The contract of the statement StreamBytes. -/
namespace Go.Proofs.YtacolbfofamocaaGreat.sx
open Go Go.RowKit
noncomputable section
def runsC : Con D where
  f := 5
  Y := Unit
  inp := fun _ _ => .ret ()
  pre := fun _ => True
  args := fun _ => []
  heap := fun _ => []
  res := fun _ => .lit true
  heap' := fun _ => []
  nx0 := 0
  nx1 := 0
def bytC : Con D where
  f := 3
  Y := Strm × By × By
  inp := fun args s => match args with
    | [x, a, b] => bnd (strmIn x s) fun x => bnd (rowsOf D s 0 a) fun a => bnd (rowsOf D s 0 b) fun b => .ret (x, (a : By), (b : By))
    | _ => .fail
  pre := fun y => y.2.1.length ≤ 1048576 ∧ y.2.2.length ≤ 1048576
  args := fun y => [.agg (strmL y.1), .list 0 y.2.1, .list 0 y.2.2]
  heap := fun _ => []
  res := fun _ => .bool true
  heap' := fun _ => []
  nx0 := 0
  nx1 := 0
def bytO (_ : bytC.Y) : Orc D := noO ()
def bytV (y : bytC.Y) : Prop := vcOf [smalC, runsC, roomC, strmC, rstrmC, sambC, intaC, readC, rreadC, strmRC, rstrmRC, atRC, errRC, sstmC] Tryz.f3 bytC bytO y
end
end Go.Proofs.YtacolbfofamocaaGreat.sx
/- Conditions, as a tool printed them; that they are the functions' own the kernel computes. -/
namespace Go.Proofs.YtacolbfofamocaaGreat.sx
open Go Go.RowKit
def bytVC (y : Prod Strm (Prod (List UInt8) (List UInt8))) : Prop :=
 (Iv True) ∧
 Rfs (([Strm.at_ y.1, Strm.line y.1] : List Int)) (
  Rfs (([Strm.long y.1, Strm.opened y.1] : List Bool)) (
  Rfs (([Strm.event y.1, Strm.size y.1] : List Int)) (
  Rfs (([Strm.ends y.1] : List (List Lst))) (
  Rfs (([Scn.held (Strm.cur y.1)] : List (List UInt8))) (
  Rfs (([Scn.place (Strm.cur y.1)] : List Int)) (
  Rfs (([Scn.lists (Strm.cur y.1)] : List (List Lst))) (
  Rfs (([Scn.held (Strm.alt y.1)] : List (List UInt8))) (
  Rfs (([Scn.place (Strm.alt y.1)] : List Int)) (
  Rfs (([Scn.lists (Strm.alt y.1)] : List (List Lst))) (
  Rfs (([Scn.held (Strm.con y.1)] : List (List UInt8))) (
  Rfs (([Scn.place (Strm.con y.1)] : List Int)) (
  Rfs (([Scn.lists (Strm.con y.1)] : List (List Lst))) (
  (
  ((Bool.not (smallF y.1)) = true) →
  (Iv True) ∧
  (Bool.true = true) ∧
  True) ∧
  (
  ((Bool.not (smallF y.1)) = false) →
  (Iv ((List.length y.2.1 : Nat) ≤ 1073741824)) ∧
  Rfs (([y.2.1] : List (List UInt8))) (
  ((ile (0 : Int) (llen y.2.1)) = true) ∧
  ((ile (llen y.2.1) (llen (roomF y.2.1))) = true) ∧
  (Iv (((((((List.length (ltake (roomF y.2.1) (llen y.2.1)) : Nat) + 63 : Nat) + (lstsW (Strm.ends y.1)) : Nat) + (scnW (Strm.cur y.1)) : Nat) + (scnW (Strm.alt y.1)) : Nat) + (scnW (Strm.con y.1)) : Nat) ≤ 536870912)) ∧
  Rfs (([ltake (roomF y.2.1) (llen y.2.1)] : List (List UInt8))) (
  Rfs (([Strm.at_ y.1, Strm.line y.1] : List Int)) (
  Rfs (([Strm.long y.1, Strm.opened y.1] : List Bool)) (
  Rfs (([Strm.event y.1, Strm.size y.1] : List Int)) (
  Rfs (([Strm.ends y.1] : List (List Lst))) (
  Rfs (([Scn.held (Strm.cur y.1)] : List (List UInt8))) (
  Rfs (([Scn.place (Strm.cur y.1)] : List Int)) (
  Rfs (([Scn.lists (Strm.cur y.1)] : List (List Lst))) (
  Rfs (([Scn.held (Strm.alt y.1)] : List (List UInt8))) (
  Rfs (([Scn.place (Strm.alt y.1)] : List Int)) (
  Rfs (([Scn.lists (Strm.alt y.1)] : List (List Lst))) (
  Rfs (([Scn.held (Strm.con y.1)] : List (List UInt8))) (
  Rfs (([Scn.place (Strm.con y.1)] : List Int)) (
  Rfs (([Scn.lists (Strm.con y.1)] : List (List Lst))) (
  (Iv (((((((List.length y.2.1 : Nat) + 63 : Nat) + (lstsW (Strm.ends y.1)) : Nat) + (scnW (Strm.cur y.1)) : Nat) + (scnW (Strm.alt y.1)) : Nat) + (scnW (Strm.con y.1)) : Nat) ≤ 536870912)) ∧
  Rfs (([y.2.1] : List (List UInt8))) (
  Rfs (([Strm.at_ y.1, Strm.line y.1] : List Int)) (
  Rfs (([Strm.long y.1, Strm.opened y.1] : List Bool)) (
  Rfs (([Strm.event y.1, Strm.size y.1] : List Int)) (
  Rfs (([Strm.ends y.1] : List (List Lst))) (
  Rfs (([Scn.held (Strm.cur y.1)] : List (List UInt8))) (
  Rfs (([Scn.place (Strm.cur y.1)] : List Int)) (
  Rfs (([Scn.lists (Strm.cur y.1)] : List (List Lst))) (
  Rfs (([Scn.held (Strm.alt y.1)] : List (List UInt8))) (
  Rfs (([Scn.place (Strm.alt y.1)] : List Int)) (
  Rfs (([Scn.lists (Strm.alt y.1)] : List (List Lst))) (
  Rfs (([Scn.held (Strm.con y.1)] : List (List UInt8))) (
  Rfs (([Scn.place (Strm.con y.1)] : List Int)) (
  Rfs (([Scn.lists (Strm.con y.1)] : List (List Lst))) (
  (Iv ((List.length (strmF (ltake (roomF y.2.1) (llen y.2.1)) y.1) : Nat) ≤ 1073741824)) ∧
  Rfs (([strmF (ltake (roomF y.2.1) (llen y.2.1)) y.1] : List (List UInt8))) (
  (@Eq (List UInt8) (strmF y.2.1 y.1) (strmF (ltake (roomF y.2.1) (llen y.2.1)) y.1)) ∧
  (
  ((Bool.not Bool.true) = true) →
  Rfs (([Strm.at_ y.1, Strm.line y.1] : List Int)) (
  Rfs (([Strm.long y.1, Strm.opened y.1] : List Bool)) (
  Rfs (([Strm.event y.1, Strm.size y.1] : List Int)) (
  Rfs (([Strm.ends y.1] : List (List Lst))) (
  Rfs (([Scn.held (Strm.cur y.1)] : List (List UInt8))) (
  Rfs (([Scn.place (Strm.cur y.1)] : List Int)) (
  Rfs (([Scn.lists (Strm.cur y.1)] : List (List Lst))) (
  Rfs (([Scn.held (Strm.alt y.1)] : List (List UInt8))) (
  Rfs (([Scn.place (Strm.alt y.1)] : List Int)) (
  Rfs (([Scn.lists (Strm.alt y.1)] : List (List Lst))) (
  Rfs (([Scn.held (Strm.con y.1)] : List (List UInt8))) (
  Rfs (([Scn.place (Strm.con y.1)] : List Int)) (
  Rfs (([Scn.lists (Strm.con y.1)] : List (List Lst))) (
  Rfs (([Strm.at_ y.1, Strm.line y.1] : List Int)) (
  Rfs (([Strm.long y.1, Strm.opened y.1] : List Bool)) (
  Rfs (([Strm.event y.1, Strm.size y.1] : List Int)) (
  Rfs (([Strm.ends y.1] : List (List Lst))) (
  Rfs (([Scn.held (Strm.cur y.1)] : List (List UInt8))) (
  Rfs (([Scn.place (Strm.cur y.1)] : List Int)) (
  Rfs (([Scn.lists (Strm.cur y.1)] : List (List Lst))) (
  Rfs (([Scn.held (Strm.alt y.1)] : List (List UInt8))) (
  Rfs (([Scn.place (Strm.alt y.1)] : List Int)) (
  Rfs (([Scn.lists (Strm.alt y.1)] : List (List Lst))) (
  Rfs (([Scn.held (Strm.con y.1)] : List (List UInt8))) (
  Rfs (([Scn.place (Strm.con y.1)] : List Int)) (
  Rfs (([Scn.lists (Strm.con y.1)] : List (List Lst))) (
  Rfs (([Strm.at_ y.1, Strm.line y.1] : List Int)) (
  Rfs (([Strm.long y.1, Strm.opened y.1] : List Bool)) (
  Rfs (([Strm.event y.1, Strm.size y.1] : List Int)) (
  Rfs (([Strm.ends y.1] : List (List Lst))) (
  Rfs (([Scn.held (Strm.cur y.1)] : List (List UInt8))) (
  Rfs (([Scn.place (Strm.cur y.1)] : List Int)) (
  Rfs (([Scn.lists (Strm.cur y.1)] : List (List Lst))) (
  Rfs (([Scn.held (Strm.alt y.1)] : List (List UInt8))) (
  Rfs (([Scn.place (Strm.alt y.1)] : List Int)) (
  Rfs (([Scn.lists (Strm.alt y.1)] : List (List Lst))) (
  Rfs (([Scn.held (Strm.con y.1)] : List (List UInt8))) (
  Rfs (([Scn.place (Strm.con y.1)] : List Int)) (
  Rfs (([Scn.lists (Strm.con y.1)] : List (List Lst))) (
  (Bool.false = true) ∧
  True)))))))))))))))))))))))))))))))))))))))) ∧
  (
  ((Bool.not Bool.true) = false) →
  (Iv ((List.length y.2.1 : Nat) ≤ 1073741824)) ∧
  Rfs (([roomF y.2.1, y.2.1] : List (List UInt8))) (
  Rfs (([Strm.at_ y.1, Strm.line y.1] : List Int)) (
  Rfs (([Strm.long y.1, Strm.opened y.1] : List Bool)) (
  Rfs (([Strm.event y.1, Strm.size y.1] : List Int)) (
  Rfs (([Strm.ends y.1] : List (List Lst))) (
  Rfs (([Scn.held (Strm.cur y.1)] : List (List UInt8))) (
  Rfs (([Scn.place (Strm.cur y.1)] : List Int)) (
  Rfs (([Scn.lists (Strm.cur y.1)] : List (List Lst))) (
  Rfs (([Scn.held (Strm.alt y.1)] : List (List UInt8))) (
  Rfs (([Scn.place (Strm.alt y.1)] : List Int)) (
  Rfs (([Scn.lists (Strm.alt y.1)] : List (List Lst))) (
  Rfs (([Scn.held (Strm.con y.1)] : List (List UInt8))) (
  Rfs (([Scn.place (Strm.con y.1)] : List Int)) (
  Rfs (([Scn.lists (Strm.con y.1)] : List (List Lst))) (
  Rfs (([Strm.at_ y.1, Strm.line y.1] : List Int)) (
  Rfs (([Strm.long y.1, Strm.opened y.1] : List Bool)) (
  Rfs (([Strm.event y.1, Strm.size y.1] : List Int)) (
  Rfs (([Strm.ends y.1] : List (List Lst))) (
  Rfs (([Scn.held (Strm.cur y.1)] : List (List UInt8))) (
  Rfs (([Scn.place (Strm.cur y.1)] : List Int)) (
  Rfs (([Scn.lists (Strm.cur y.1)] : List (List Lst))) (
  Rfs (([Scn.held (Strm.alt y.1)] : List (List UInt8))) (
  Rfs (([Scn.place (Strm.alt y.1)] : List Int)) (
  Rfs (([Scn.lists (Strm.alt y.1)] : List (List Lst))) (
  Rfs (([Scn.held (Strm.con y.1)] : List (List UInt8))) (
  Rfs (([Scn.place (Strm.con y.1)] : List Int)) (
  Rfs (([Scn.lists (Strm.con y.1)] : List (List Lst))) (
  Rfs (([Strm.at_ y.1, Strm.line y.1] : List Int)) (
  Rfs (([Strm.long y.1, Strm.opened y.1] : List Bool)) (
  Rfs (([Strm.event y.1, Strm.size y.1] : List Int)) (
  Rfs (([Strm.ends y.1] : List (List Lst))) (
  Rfs (([Scn.held (Strm.cur y.1)] : List (List UInt8))) (
  Rfs (([Scn.place (Strm.cur y.1)] : List Int)) (
  Rfs (([Scn.lists (Strm.cur y.1)] : List (List Lst))) (
  Rfs (([Scn.held (Strm.alt y.1)] : List (List UInt8))) (
  Rfs (([Scn.place (Strm.alt y.1)] : List Int)) (
  Rfs (([Scn.lists (Strm.alt y.1)] : List (List Lst))) (
  Rfs (([Scn.held (Strm.con y.1)] : List (List UInt8))) (
  Rfs (([Scn.place (Strm.con y.1)] : List Int)) (
  Rfs (([Scn.lists (Strm.con y.1)] : List (List Lst))) (
  (
  ((Bool.not Bool.true) = true) →
  (Bool.false = true) ∧
  True) ∧
  (
  ((Bool.not Bool.true) = false) →
  (Iv ((List.length y.2.2 : Nat) ≤ 1073741824)) ∧
  Rfs (([y.2.2] : List (List UInt8))) (
  (Iv ((List.length y.2.2 : Nat) ≤ 1073741824)) ∧
  Rfs (([y.2.2] : List (List UInt8))) (
  (Iv (RdOk (y.2.2, RS.mk (0 : Int) (0 : Int)))) ∧
  Rfs (([y.2.2] : List (List UInt8))) (
  Rfs (([(0 : Int), (0 : Int)] : List Int)) (
  (Iv (RdOk (y.2.2, RS.mk (0 : Int) (0 : Int)))) ∧
  Rfs (([y.2.2] : List (List UInt8))) (
  Rfs (([(0 : Int), (0 : Int)] : List Int)) (
  (Iv True) ∧
  Rfs (([y.2.2] : List (List UInt8))) (
  Rfs (([RS.at_ (strmS y.2.2 (RS.mk (0 : Int) (0 : Int))), RS.err (strmS y.2.2 (RS.mk (0 : Int) (0 : Int)))] : List Int)) (
  (
  ((ieq (RS.at_ (strmS y.2.2 (RS.mk (0 : Int) (0 : Int)))) (RS.at_ (strmS y.2.2 (RS.mk (0 : Int) (0 : Int))))) = true) →
  (Iv True) ∧
  Rfs (([y.2.2] : List (List UInt8))) (
  Rfs (([RS.at_ (strmS y.2.2 (RS.mk (0 : Int) (0 : Int))), RS.err (strmS y.2.2 (RS.mk (0 : Int) (0 : Int)))] : List Int)) (
  (
  ((ieq (RS.err (strmS y.2.2 (RS.mk (0 : Int) (0 : Int)))) (RS.err (strmS y.2.2 (RS.mk (0 : Int) (0 : Int))))) = true) →
  (
  ((Bool.not (ieq (RS.err (strmS y.2.2 (RS.mk (0 : Int) (0 : Int)))) (0 : Int))) = true) →
  (Iv True) ∧
  Rfs (([RS.at_ (strmS y.2.2 (RS.mk (0 : Int) (0 : Int))), RS.at_ (strmS y.2.2 (RS.mk (0 : Int) (0 : Int))), RS.err (strmS y.2.2 (RS.mk (0 : Int) (0 : Int))), RS.err (strmS y.2.2 (RS.mk (0 : Int) (0 : Int))), RS.err (strmS y.2.2 (RS.mk (0 : Int) (0 : Int)))] : List Int)) (
  (Bool.true = true) ∧
  True)) ∧
  (
  ((Bool.not (ieq (RS.err (strmS y.2.2 (RS.mk (0 : Int) (0 : Int)))) (0 : Int))) = false) →
  (Iv ((shortL (llstR y.2.2 (numS y.2.2 (numS y.2.2 (stmB y.2.2 (RS.mk (0 : Int) (0 : Int))))) Bool.false)) ∧ (shortS (Scn.mk (textR y.2.2 (stmD y.2.2 (RS.mk (0 : Int) (0 : Int))) (3 : Int)) (numR y.2.2 (scnS1 y.2.2 (stmD y.2.2 (RS.mk (0 : Int) (0 : Int))))) (llstR y.2.2 (scnS2 y.2.2 (stmD y.2.2 (RS.mk (0 : Int) (0 : Int)))) Bool.false))) ∧ (shortS (Scn.mk (textR y.2.2 (scnS y.2.2 (stmD y.2.2 (RS.mk (0 : Int) (0 : Int)))) (3 : Int)) (numR y.2.2 (scnS1 y.2.2 (scnS y.2.2 (stmD y.2.2 (RS.mk (0 : Int) (0 : Int)))))) (llstR y.2.2 (scnS2 y.2.2 (scnS y.2.2 (stmD y.2.2 (RS.mk (0 : Int) (0 : Int))))) Bool.false))) ∧ shortS (Scn.mk (textR y.2.2 (scnS y.2.2 (scnS y.2.2 (stmD y.2.2 (RS.mk (0 : Int) (0 : Int))))) (3 : Int)) (numR y.2.2 (scnS1 y.2.2 (scnS y.2.2 (scnS y.2.2 (stmD y.2.2 (RS.mk (0 : Int) (0 : Int))))))) (llstR y.2.2 (scnS2 y.2.2 (scnS y.2.2 (scnS y.2.2 (stmD y.2.2 (RS.mk (0 : Int) (0 : Int)))))) Bool.false)))) ∧
  Rfs (([numR y.2.2 (RS.mk (0 : Int) (0 : Int)), numR y.2.2 (numS y.2.2 (RS.mk (0 : Int) (0 : Int)))] : List Int)) (
  Rfs (([flagR y.2.2 (stmA y.2.2 (RS.mk (0 : Int) (0 : Int))), flagR y.2.2 (flagS y.2.2 (stmA y.2.2 (RS.mk (0 : Int) (0 : Int))))] : List Bool)) (
  Rfs (([numR y.2.2 (stmB y.2.2 (RS.mk (0 : Int) (0 : Int))), numR y.2.2 (numS y.2.2 (stmB y.2.2 (RS.mk (0 : Int) (0 : Int))))] : List Int)) (
  Rfs (([llstR y.2.2 (numS y.2.2 (numS y.2.2 (stmB y.2.2 (RS.mk (0 : Int) (0 : Int))))) Bool.false] : List (List Lst))) (
  Rfs (([textR y.2.2 (stmD y.2.2 (RS.mk (0 : Int) (0 : Int))) (3 : Int)] : List (List UInt8))) (
  Rfs (([numR y.2.2 (scnS1 y.2.2 (stmD y.2.2 (RS.mk (0 : Int) (0 : Int))))] : List Int)) (
  Rfs (([llstR y.2.2 (scnS2 y.2.2 (stmD y.2.2 (RS.mk (0 : Int) (0 : Int)))) Bool.false] : List (List Lst))) (
  Rfs (([textR y.2.2 (scnS y.2.2 (stmD y.2.2 (RS.mk (0 : Int) (0 : Int)))) (3 : Int)] : List (List UInt8))) (
  Rfs (([numR y.2.2 (scnS1 y.2.2 (scnS y.2.2 (stmD y.2.2 (RS.mk (0 : Int) (0 : Int)))))] : List Int)) (
  Rfs (([llstR y.2.2 (scnS2 y.2.2 (scnS y.2.2 (stmD y.2.2 (RS.mk (0 : Int) (0 : Int))))) Bool.false] : List (List Lst))) (
  Rfs (([textR y.2.2 (scnS y.2.2 (scnS y.2.2 (stmD y.2.2 (RS.mk (0 : Int) (0 : Int))))) (3 : Int)] : List (List UInt8))) (
  Rfs (([numR y.2.2 (scnS1 y.2.2 (scnS y.2.2 (scnS y.2.2 (stmD y.2.2 (RS.mk (0 : Int) (0 : Int))))))] : List Int)) (
  Rfs (([llstR y.2.2 (scnS2 y.2.2 (scnS y.2.2 (scnS y.2.2 (stmD y.2.2 (RS.mk (0 : Int) (0 : Int)))))) Bool.false] : List (List Lst))) (
  Rfs (([numR y.2.2 (RS.mk (0 : Int) (0 : Int)), numR y.2.2 (numS y.2.2 (RS.mk (0 : Int) (0 : Int)))] : List Int)) (
  Rfs (([flagR y.2.2 (stmA y.2.2 (RS.mk (0 : Int) (0 : Int))), flagR y.2.2 (flagS y.2.2 (stmA y.2.2 (RS.mk (0 : Int) (0 : Int))))] : List Bool)) (
  Rfs (([numR y.2.2 (stmB y.2.2 (RS.mk (0 : Int) (0 : Int))), numR y.2.2 (numS y.2.2 (stmB y.2.2 (RS.mk (0 : Int) (0 : Int))))] : List Int)) (
  (@Eq (List Lst) (llstR y.2.2 (numS y.2.2 (numS y.2.2 (stmB y.2.2 (RS.mk (0 : Int) (0 : Int))))) Bool.true) (llstR y.2.2 (numS y.2.2 (numS y.2.2 (stmB y.2.2 (RS.mk (0 : Int) (0 : Int))))) Bool.false)) ∧
  Rfs (([textR y.2.2 (stmD y.2.2 (RS.mk (0 : Int) (0 : Int))) (3 : Int)] : List (List UInt8))) (
  Rfs (([numR y.2.2 (scnS1 y.2.2 (stmD y.2.2 (RS.mk (0 : Int) (0 : Int))))] : List Int)) (
  (@Eq (List Lst) (llstR y.2.2 (scnS2 y.2.2 (stmD y.2.2 (RS.mk (0 : Int) (0 : Int)))) Bool.true) (llstR y.2.2 (scnS2 y.2.2 (stmD y.2.2 (RS.mk (0 : Int) (0 : Int)))) Bool.false)) ∧
  Rfs (([textR y.2.2 (scnS y.2.2 (stmD y.2.2 (RS.mk (0 : Int) (0 : Int)))) (3 : Int)] : List (List UInt8))) (
  Rfs (([numR y.2.2 (scnS1 y.2.2 (scnS y.2.2 (stmD y.2.2 (RS.mk (0 : Int) (0 : Int)))))] : List Int)) (
  (@Eq (List Lst) (llstR y.2.2 (scnS2 y.2.2 (scnS y.2.2 (stmD y.2.2 (RS.mk (0 : Int) (0 : Int))))) Bool.true) (llstR y.2.2 (scnS2 y.2.2 (scnS y.2.2 (stmD y.2.2 (RS.mk (0 : Int) (0 : Int))))) Bool.false)) ∧
  Rfs (([textR y.2.2 (scnS y.2.2 (scnS y.2.2 (stmD y.2.2 (RS.mk (0 : Int) (0 : Int))))) (3 : Int)] : List (List UInt8))) (
  Rfs (([numR y.2.2 (scnS1 y.2.2 (scnS y.2.2 (scnS y.2.2 (stmD y.2.2 (RS.mk (0 : Int) (0 : Int))))))] : List Int)) (
  (@Eq (List Lst) (llstR y.2.2 (scnS2 y.2.2 (scnS y.2.2 (scnS y.2.2 (stmD y.2.2 (RS.mk (0 : Int) (0 : Int)))))) Bool.true) (llstR y.2.2 (scnS2 y.2.2 (scnS y.2.2 (scnS y.2.2 (stmD y.2.2 (RS.mk (0 : Int) (0 : Int)))))) Bool.false)) ∧
  (
  (Bool.true = true) →
  (Iv True) ∧
  Rfs (([RS.at_ (strmS y.2.2 (RS.mk (0 : Int) (0 : Int))), RS.at_ (strmS y.2.2 (RS.mk (0 : Int) (0 : Int))), RS.err (strmS y.2.2 (RS.mk (0 : Int) (0 : Int))), RS.err (strmS y.2.2 (RS.mk (0 : Int) (0 : Int))), RS.err (strmS y.2.2 (RS.mk (0 : Int) (0 : Int))), numR y.2.2 (RS.mk (0 : Int) (0 : Int)), numR y.2.2 (numS y.2.2 (RS.mk (0 : Int) (0 : Int)))] : List Int)) (
  Rfs (([flagR y.2.2 (stmA y.2.2 (RS.mk (0 : Int) (0 : Int))), flagR y.2.2 (flagS y.2.2 (stmA y.2.2 (RS.mk (0 : Int) (0 : Int))))] : List Bool)) (
  Rfs (([numR y.2.2 (stmB y.2.2 (RS.mk (0 : Int) (0 : Int))), numR y.2.2 (numS y.2.2 (stmB y.2.2 (RS.mk (0 : Int) (0 : Int))))] : List Int)) (
  Rfs (([llstR y.2.2 (numS y.2.2 (numS y.2.2 (stmB y.2.2 (RS.mk (0 : Int) (0 : Int))))) Bool.false] : List (List Lst))) (
  Rfs (([textR y.2.2 (stmD y.2.2 (RS.mk (0 : Int) (0 : Int))) (3 : Int)] : List (List UInt8))) (
  Rfs (([numR y.2.2 (scnS1 y.2.2 (stmD y.2.2 (RS.mk (0 : Int) (0 : Int))))] : List Int)) (
  Rfs (([llstR y.2.2 (scnS2 y.2.2 (stmD y.2.2 (RS.mk (0 : Int) (0 : Int)))) Bool.false] : List (List Lst))) (
  Rfs (([textR y.2.2 (scnS y.2.2 (stmD y.2.2 (RS.mk (0 : Int) (0 : Int)))) (3 : Int)] : List (List UInt8))) (
  Rfs (([numR y.2.2 (scnS1 y.2.2 (scnS y.2.2 (stmD y.2.2 (RS.mk (0 : Int) (0 : Int)))))] : List Int)) (
  Rfs (([llstR y.2.2 (scnS2 y.2.2 (scnS y.2.2 (stmD y.2.2 (RS.mk (0 : Int) (0 : Int))))) Bool.false] : List (List Lst))) (
  Rfs (([textR y.2.2 (scnS y.2.2 (scnS y.2.2 (stmD y.2.2 (RS.mk (0 : Int) (0 : Int))))) (3 : Int)] : List (List UInt8))) (
  Rfs (([numR y.2.2 (scnS1 y.2.2 (scnS y.2.2 (scnS y.2.2 (stmD y.2.2 (RS.mk (0 : Int) (0 : Int))))))] : List Int)) (
  Rfs (([llstR y.2.2 (scnS2 y.2.2 (scnS y.2.2 (scnS y.2.2 (stmD y.2.2 (RS.mk (0 : Int) (0 : Int)))))) Bool.false] : List (List Lst))) (
  Rfs (([numR y.2.2 (RS.mk (0 : Int) (0 : Int)), numR y.2.2 (numS y.2.2 (RS.mk (0 : Int) (0 : Int)))] : List Int)) (
  Rfs (([flagR y.2.2 (stmA y.2.2 (RS.mk (0 : Int) (0 : Int))), flagR y.2.2 (flagS y.2.2 (stmA y.2.2 (RS.mk (0 : Int) (0 : Int))))] : List Bool)) (
  Rfs (([numR y.2.2 (stmB y.2.2 (RS.mk (0 : Int) (0 : Int))), numR y.2.2 (numS y.2.2 (stmB y.2.2 (RS.mk (0 : Int) (0 : Int))))] : List Int)) (
  Rfs (([llstR y.2.2 (numS y.2.2 (numS y.2.2 (stmB y.2.2 (RS.mk (0 : Int) (0 : Int))))) Bool.true] : List (List Lst))) (
  Rfs (([textR y.2.2 (stmD y.2.2 (RS.mk (0 : Int) (0 : Int))) (3 : Int)] : List (List UInt8))) (
  Rfs (([numR y.2.2 (scnS1 y.2.2 (stmD y.2.2 (RS.mk (0 : Int) (0 : Int))))] : List Int)) (
  Rfs (([llstR y.2.2 (scnS2 y.2.2 (stmD y.2.2 (RS.mk (0 : Int) (0 : Int)))) Bool.true] : List (List Lst))) (
  Rfs (([textR y.2.2 (scnS y.2.2 (stmD y.2.2 (RS.mk (0 : Int) (0 : Int)))) (3 : Int)] : List (List UInt8))) (
  Rfs (([numR y.2.2 (scnS1 y.2.2 (scnS y.2.2 (stmD y.2.2 (RS.mk (0 : Int) (0 : Int)))))] : List Int)) (
  Rfs (([llstR y.2.2 (scnS2 y.2.2 (scnS y.2.2 (stmD y.2.2 (RS.mk (0 : Int) (0 : Int))))) Bool.true] : List (List Lst))) (
  Rfs (([textR y.2.2 (scnS y.2.2 (scnS y.2.2 (stmD y.2.2 (RS.mk (0 : Int) (0 : Int))))) (3 : Int)] : List (List UInt8))) (
  Rfs (([numR y.2.2 (scnS1 y.2.2 (scnS y.2.2 (scnS y.2.2 (stmD y.2.2 (RS.mk (0 : Int) (0 : Int))))))] : List Int)) (
  Rfs (([llstR y.2.2 (scnS2 y.2.2 (scnS y.2.2 (scnS y.2.2 (stmD y.2.2 (RS.mk (0 : Int) (0 : Int)))))) Bool.true] : List (List Lst))) (
  (Bool.true = true) ∧
  True))))))))))))))))))))))))))) ∧
  (
  (Bool.true = false) →
  Rfs (([RS.at_ (strmS y.2.2 (RS.mk (0 : Int) (0 : Int))), RS.at_ (strmS y.2.2 (RS.mk (0 : Int) (0 : Int))), RS.err (strmS y.2.2 (RS.mk (0 : Int) (0 : Int))), RS.err (strmS y.2.2 (RS.mk (0 : Int) (0 : Int))), RS.err (strmS y.2.2 (RS.mk (0 : Int) (0 : Int))), numR y.2.2 (RS.mk (0 : Int) (0 : Int)), numR y.2.2 (numS y.2.2 (RS.mk (0 : Int) (0 : Int)))] : List Int)) (
  Rfs (([flagR y.2.2 (stmA y.2.2 (RS.mk (0 : Int) (0 : Int))), flagR y.2.2 (flagS y.2.2 (stmA y.2.2 (RS.mk (0 : Int) (0 : Int))))] : List Bool)) (
  Rfs (([numR y.2.2 (stmB y.2.2 (RS.mk (0 : Int) (0 : Int))), numR y.2.2 (numS y.2.2 (stmB y.2.2 (RS.mk (0 : Int) (0 : Int))))] : List Int)) (
  Rfs (([llstR y.2.2 (numS y.2.2 (numS y.2.2 (stmB y.2.2 (RS.mk (0 : Int) (0 : Int))))) Bool.false] : List (List Lst))) (
  Rfs (([textR y.2.2 (stmD y.2.2 (RS.mk (0 : Int) (0 : Int))) (3 : Int)] : List (List UInt8))) (
  Rfs (([numR y.2.2 (scnS1 y.2.2 (stmD y.2.2 (RS.mk (0 : Int) (0 : Int))))] : List Int)) (
  Rfs (([llstR y.2.2 (scnS2 y.2.2 (stmD y.2.2 (RS.mk (0 : Int) (0 : Int)))) Bool.false] : List (List Lst))) (
  Rfs (([textR y.2.2 (scnS y.2.2 (stmD y.2.2 (RS.mk (0 : Int) (0 : Int)))) (3 : Int)] : List (List UInt8))) (
  Rfs (([numR y.2.2 (scnS1 y.2.2 (scnS y.2.2 (stmD y.2.2 (RS.mk (0 : Int) (0 : Int)))))] : List Int)) (
  Rfs (([llstR y.2.2 (scnS2 y.2.2 (scnS y.2.2 (stmD y.2.2 (RS.mk (0 : Int) (0 : Int))))) Bool.false] : List (List Lst))) (
  Rfs (([textR y.2.2 (scnS y.2.2 (scnS y.2.2 (stmD y.2.2 (RS.mk (0 : Int) (0 : Int))))) (3 : Int)] : List (List UInt8))) (
  Rfs (([numR y.2.2 (scnS1 y.2.2 (scnS y.2.2 (scnS y.2.2 (stmD y.2.2 (RS.mk (0 : Int) (0 : Int))))))] : List Int)) (
  Rfs (([llstR y.2.2 (scnS2 y.2.2 (scnS y.2.2 (scnS y.2.2 (stmD y.2.2 (RS.mk (0 : Int) (0 : Int)))))) Bool.false] : List (List Lst))) (
  Rfs (([numR y.2.2 (RS.mk (0 : Int) (0 : Int)), numR y.2.2 (numS y.2.2 (RS.mk (0 : Int) (0 : Int)))] : List Int)) (
  Rfs (([flagR y.2.2 (stmA y.2.2 (RS.mk (0 : Int) (0 : Int))), flagR y.2.2 (flagS y.2.2 (stmA y.2.2 (RS.mk (0 : Int) (0 : Int))))] : List Bool)) (
  Rfs (([numR y.2.2 (stmB y.2.2 (RS.mk (0 : Int) (0 : Int))), numR y.2.2 (numS y.2.2 (stmB y.2.2 (RS.mk (0 : Int) (0 : Int))))] : List Int)) (
  Rfs (([llstR y.2.2 (numS y.2.2 (numS y.2.2 (stmB y.2.2 (RS.mk (0 : Int) (0 : Int))))) Bool.true] : List (List Lst))) (
  Rfs (([textR y.2.2 (stmD y.2.2 (RS.mk (0 : Int) (0 : Int))) (3 : Int)] : List (List UInt8))) (
  Rfs (([numR y.2.2 (scnS1 y.2.2 (stmD y.2.2 (RS.mk (0 : Int) (0 : Int))))] : List Int)) (
  Rfs (([llstR y.2.2 (scnS2 y.2.2 (stmD y.2.2 (RS.mk (0 : Int) (0 : Int)))) Bool.true] : List (List Lst))) (
  Rfs (([textR y.2.2 (scnS y.2.2 (stmD y.2.2 (RS.mk (0 : Int) (0 : Int)))) (3 : Int)] : List (List UInt8))) (
  Rfs (([numR y.2.2 (scnS1 y.2.2 (scnS y.2.2 (stmD y.2.2 (RS.mk (0 : Int) (0 : Int)))))] : List Int)) (
  Rfs (([llstR y.2.2 (scnS2 y.2.2 (scnS y.2.2 (stmD y.2.2 (RS.mk (0 : Int) (0 : Int))))) Bool.true] : List (List Lst))) (
  Rfs (([textR y.2.2 (scnS y.2.2 (scnS y.2.2 (stmD y.2.2 (RS.mk (0 : Int) (0 : Int))))) (3 : Int)] : List (List UInt8))) (
  Rfs (([numR y.2.2 (scnS1 y.2.2 (scnS y.2.2 (scnS y.2.2 (stmD y.2.2 (RS.mk (0 : Int) (0 : Int))))))] : List Int)) (
  Rfs (([llstR y.2.2 (scnS2 y.2.2 (scnS y.2.2 (scnS y.2.2 (stmD y.2.2 (RS.mk (0 : Int) (0 : Int)))))) Bool.true] : List (List Lst))) (
  (Bool.false = true) ∧
  True))))))))))))))))))))))))))))))))))))))))))))))))))) ∧
  (
  ((ieq (RS.err (strmS y.2.2 (RS.mk (0 : Int) (0 : Int)))) (RS.err (strmS y.2.2 (RS.mk (0 : Int) (0 : Int))))) = false) →
  Rfs (([RS.at_ (strmS y.2.2 (RS.mk (0 : Int) (0 : Int))), RS.at_ (strmS y.2.2 (RS.mk (0 : Int) (0 : Int))), RS.err (strmS y.2.2 (RS.mk (0 : Int) (0 : Int))), RS.err (strmS y.2.2 (RS.mk (0 : Int) (0 : Int)))] : List Int)) (
  (Bool.false = true) ∧
  True))))) ∧
  (
  ((ieq (RS.at_ (strmS y.2.2 (RS.mk (0 : Int) (0 : Int)))) (RS.at_ (strmS y.2.2 (RS.mk (0 : Int) (0 : Int))))) = false) →
  Rfs (([RS.at_ (strmS y.2.2 (RS.mk (0 : Int) (0 : Int))), RS.at_ (strmS y.2.2 (RS.mk (0 : Int) (0 : Int)))] : List Int)) (
  (Bool.false = true) ∧
  True))))))))))))))))))))))))))))))))))))))))))))))))))))))))))))))))))))))))))))))))))))))))))))))))
theorem bytV_eq : ∀ y, bytVC y = bytV y := fun y => by kernel_rfl
end Go.Proofs.YtacolbfofamocaaGreat.sx
/- StreamBytes: the statement's contract, of that of StreamRuns. -/
namespace Go.Proofs.YtacolbfofamocaaGreat.sx
open Go Go.RowKit
set_option maxRecDepth 100000
/-! ### An error stays -/
def Stk (f : RS → RS) : Prop := ∀ s, s.err ≠ 0 → f s = s
theorem Stk.zero {f : RS → RS} (h : Stk f) {s : RS} (h0 : (f s).err = 0) : s.err = 0 := by
  by_cases e : s.err = 0
  · exact e
  · rw [h s e] at h0; exact h0
theorem Stk.comp {f g : RS → RS} (h : Stk f) (k : Stk g) : Stk fun s => f (g s) := fun s e => by
  have : g s = s := k s e
  show f (g s) = s
  rw [this, h s e]
theorem numS_stk (l : By) : Stk (numS l) := fun s e => by unfold numS; rw [numB1 e]
theorem flagS_stk (l : By) : Stk (flagS l) := fun s e => by
  unfold flagS flagB
  rw [numS_stk l s e, if_neg (fun h => e h.1)]
theorem uptoS_stk (l : By) (m : Int) : Stk fun s => uptoS l s m := fun s e => by
  show uptoS l s m = s
  unfold uptoS uptoB
  rw [numS_stk l s e, if_neg (fun h => e h.1)]
theorem textS_stk (l : By) (m : Int) : Stk fun s => textS l s m := fun s e => by
  have h : uptoS l s m = s := uptoS_stk l m s e
  show textS l s m = s
  unfold textS textB
  rw [h, if_pos e]
theorem cntS_stk (l : By) (m : Int) : Stk fun s => cntS l s m := fun s e => by
  have h : uptoS l s m = s := uptoS_stk l m s e
  show cntS l s m = s
  unfold cntS
  rw [h, if_neg (fun h => e h.1)]
theorem itN_err {nxt : RS → RS} {s : RS} (e : s.err ≠ 0) (n : Nat) : itN nxt s n = 0 := itN_of (i := 0) (Nat.zero_le _) (fun _ h => absurd h (Nat.not_lt_zero _)) (.inr e)
theorem itAll_stk {l : By} {m : Int} {nxt : RS → RS} {n : RS → Nat} : Stk fun s => itS nxt (cntS l s m) (itN nxt (cntS l s m) (n s)) := fun s e => by
  have h : cntS l s m = s := cntS_stk l m s e
  show itS nxt (cntS l s m) (itN nxt (cntS l s m) (n s)) = s
  rw [h, itN_err e]
  rfl
theorem lthrS_stk (l : By) : Stk (lthrS l) := itAll_stk
theorem llstS_stk (l : By) : Stk (llstS l) := itAll_stk
theorem capsS_stk (l : By) : Stk (capsS l) := fun s e => by
  have h : ∀ n, sN l s n = s := fun n => by
    induction n with
    | zero => rfl
    | succ n ih => show numS l (sN l s n) = s; rw [ih, numS_stk l s e]
  exact h 10
theorem scnS_stk (l : By) : Stk (scnS l) := (llstS_stk l).comp ((numS_stk l).comp (textS_stk l 3))
/-! ### Without an error both read the same -/
section
variable {nxt : RS → RS} {s : RS}
theorem itN_le (n : Nat) : itN nxt s n ≤ n := by
  induction n with
  | zero => exact Nat.le_refl _
  | succ n ih =>
    show (if itN nxt s n = n ∧ (itS nxt s n).err = 0 then n + 1 else itN nxt s n) ≤ n + 1
    split <;> omega
theorem itN_ok (n : Nat) : okI nxt s (itN nxt s n) := by
  induction n with
  | zero => exact fun _ h => absurd h (Nat.not_lt_zero _)
  | succ n ih =>
    show okI nxt s (if itN nxt s n = n ∧ (itS nxt s n).err = 0 then n + 1 else itN nxt s n)
    split
    · rename_i h
      rw [h.1] at ih
      exact okI_succ ih h.2
    · exact ih
end
theorem lthrR_same {l : By} {s : RS} (h : (lthrS l s).err = 0) : lthrR l s true = lthrR l s false := by
  unfold lthrR
  rw [if_neg (fun h => by cases h.2), if_neg (fun h2 => h2.1 h)]
theorem llstR_same {l : By} {s : RS} (h : (llstS l s).err = 0) : llstR l s true = llstR l s false := by
  unfold llstR
  rw [if_neg (fun h => by cases h.2), if_neg (fun h2 => h2.1 h)]
  unfold itL
  apply List.map_congr_left
  intro j hj
  have hj2 := List.mem_range.1 hj
  have h1 : (itS (lstS l) (cntS l s 8) (j + 1)).err = 0 := by
    by_cases e : j + 1 = itN (lstS l) (cntS l s 8) (cntR l s 8).toNat
    · rw [e]; exact h
    · exact itN_ok (nxt := lstS l) (s := cntS l s 8) (cntR l s 8).toNat (j + 1) (by omega)
  unfold lstR
  rw [lthrR_same h1]
/-! ### Sizes -/
theorem lthrR_short {l : By} {s : RS} (h : RdOk (l, s)) (p : Bool) : (lthrR l s p).length ≤ 400 := by
  obtain ⟨_, _, _, _, h5⟩ := uptoS_ok (m := 400) h
  unfold lthrR
  split
  · exact Nat.zero_le _
  · rw [itL_len]
    have := itN_le (nxt := thrS l) (s := cntS l s 400) (cntR l s 400).toNat
    have e : cntR l s 400 = uptoR l s 400 := rfl
    rw [e] at this ⊢
    omega
theorem llstR_short {l : By} {s : RS} (h : RdOk (l, s)) (p : Bool) : shortL (llstR l s p) := by
  obtain ⟨_, _, _, _, h5⟩ := uptoS_ok (m := 8) h
  unfold llstR
  split
  · exact ⟨Nat.zero_le _, fun _ h => (by cases h)⟩
  · refine ⟨?_, fun x hx => ?_⟩
    · rw [itL_len]
      have := itN_le (nxt := lstS l) (s := cntS l s 8) (cntR l s 8).toNat
      have e : cntR l s 8 = uptoR l s 8 := rfl
      rw [e] at this ⊢
      omega
    · unfold itL at hx
      obtain ⟨j, _, rfl⟩ := List.mem_map.1 hx
      have h2 := lthrR_short (capsS_ok (flagS_ok (itS_ok (nxt := lstS l) (fun _ h => lstS_ok h) (cntS_ok (m := 8) h) j))) p
      exact Nat.le_trans h2 (by omega)
theorem textR_short {l : By} {s : RS} {m : Int} (h : l.length ≤ 1073741824) : (textR l s m).length ≤ 1073741824 := by
  unfold textR textB
  split
  · exact Nat.zero_le _
  split
  · exact Nat.zero_le _
  · simp only [ldrop, ltake, List.length_drop, List.length_take]
    omega
theorem scnR_short {l : By} {s : RS} (h : RdOk (l, s)) (p : Bool) : shortS (scnR l s p) := ⟨textR_short h.2.2, llstR_short (numS_ok (textS_ok h)).1 p⟩
theorem smallL_W {l : List Lst} (h : smallL l = true) : lstsW l ≤ 595296 := by
  obtain ⟨h1, h2⟩ := (smallL_iff l).1 h
  have key : ∀ m : List Lst, (∀ x ∈ m, x.threads.length ≤ 500) → lstsW m ≤ 49608 * m.length := by
    intro m
    induction m with
    | nil => intro _; exact Nat.le_refl _
    | cons x m ih =>
      intro hm
      have a := ih (fun y hy => hm y (List.mem_cons_of_mem _ hy))
      have b := hm x List.mem_cons_self
      have e : lstsW (x :: m) = lstW x + lstsW m := by unfold lstsW; simp
      rw [e, List.length_cons]
      unfold lstW
      omega
  have := key l h2
  omega
theorem strmF_len (b : By) (y : Strm) : (strmF b y).length ≤ b.length + 63 + lstsW y.ends + scnW y.cur + scnW y.alt + scnW y.con := by
  have h1 := numF_len b y.at_
  have h2 := numF_len (numF b y.at_) y.line
  generalize hb2 : numF (numF b y.at_) y.line = b2 at h2
  have h3 := flagF_len b2 y.long
  have h4 := flagF_len (flagF b2 y.long) y.opened
  generalize hb4 : flagF (flagF b2 y.long) y.opened = b4 at h4
  have h5 := numF_len b4 y.event
  have h6 := numF_len (numF b4 y.event) y.size
  generalize hb6 : numF (numF b4 y.event) y.size = b6 at h6
  have h7 := lstsF_len b6 y.ends
  have h8 := scnF_len (lstsF b6 y.ends) y.cur
  have h9 := scnF_len (scnF (lstsF b6 y.ends) y.cur) y.alt
  have h10 := scnF_len (scnF (scnF (lstsF b6 y.ends) y.cur) y.alt) y.con
  unfold strmF
  rw [hb2, hb4, hb6]
  omega
theorem bytH (y : Strm × By × By) (hy : bytC.pre y) : bytVC y := by
  obtain ⟨x, a, b⟩ := y
  have ha : a.length ≤ 1048576 := hy.1
  have hb : b.length ≤ 1048576 := hy.2
  have ht : ltake (roomF a) (a.length : Int) = a := by unfold ltake roomF; simp
  have hl : (((roomF a).length : Nat) : Int) = (a.length : Int) + 80 := by rw [roomF_len]; omega
  have h0 : RdOk (b, ⟨0, 0⟩) := ⟨Int.le_refl _, by simp, by simp; omega⟩
  unfold bytVC
  simp only [Rfs_eq, llen_eq, ht, hl, ieq_self, Bool.not_true, Bool.false_eq_true, Bool.not_eq_true', Bool.not_eq_false', false_implies, true_and, and_true, true_implies, reduceCtorEq, ile_t, ieq_t, ieq_f]
  refine ⟨⟨trivial⟩, fun _ => ⟨trivial⟩, fun hs => ?_⟩
  obtain ⟨g1, g2, g3, g4⟩ := (smallF_eq x).1 hs
  have w0 : lstsW x.ends ≤ 595296 := smallL_W (g1 0 (by omega))
  have w1 : lstsW x.cur.lists ≤ 595296 := smallL_W (g1 1 (by omega))
  have w2 : lstsW x.alt.lists ≤ 595296 := smallL_W (g1 2 (by omega))
  have w3 : lstsW x.con.lists ≤ 595296 := smallL_W (g1 3 (by omega))
  have v1 : scnW x.cur ≤ 595343 := by unfold scnW; omega
  have v2 : scnW x.alt ≤ 595343 := by unfold scnW; omega
  have v3 : scnW x.con ≤ 595343 := by unfold scnW; omega
  have hF := strmF_len a x
  generalize hS : RS.mk 0 0 = s0 at *
  have h1 : RdOk (b, stmA b s0) := (numS_ok (numS_ok h0).1).1
  have h2 : RdOk (b, stmB b s0) := flagS_ok (flagS_ok h1)
  have h3 : RdOk (b, stmC b s0) := (numS_ok (numS_ok h2).1).1
  have h4 : RdOk (b, stmD b s0) := llstS_ok h3
  have h5 := scnS_ok h4
  have h6 := scnS_ok h5
  refine ⟨⟨by omega⟩, by omega, by omega, ⟨by omega⟩, ⟨by omega⟩, ⟨by omega⟩, ⟨by omega⟩, ⟨by omega⟩, ⟨by omega⟩, ⟨h0⟩, ⟨h0⟩, ⟨trivial⟩, ⟨trivial⟩, fun _ => ⟨trivial⟩, fun he => ?_⟩
  have e3 : (scnS b (scnS b (scnS b (stmD b s0)))).err = 0 := he
  have e2 : (scnS b (scnS b (stmD b s0))).err = 0 := (scnS_stk b).zero e3
  have e1 : (scnS b (stmD b s0)).err = 0 := (scnS_stk b).zero e2
  have e0 : (stmD b s0).err = 0 := (scnS_stk b).zero e1
  exact ⟨⟨llstR_short h3 false, scnR_short h4 false, scnR_short h5 false, scnR_short h6 false⟩, llstR_same e0, llstR_same e1, llstR_same e2, llstR_same e3, ⟨trivial⟩⟩
theorem bytOk (hr : Ok runsC) : Ok bytC := okOf (tab := [smalC, runsC, roomC, strmC, rstrmC, sambC, intaC, readC, rreadC, strmRC, rstrmRC, atRC, errRC, sstmC]) (fn := Tryz.f3) (orc := bytO)
  (by simp; exact ⟨smalOk, hr, roomOk, strmOk, rstrmOk, sambOk, intaOk, readOk, rreadOk, strmROk, rstrmROk, atROk, errROk, sstmOk⟩) (by kernel_rfl) (by kernel_rfl) (fun _ => by exact Nat.le_of_ble_eq_true (by kernel_rfl)) fun y hy => Eq.mp (bytV_eq y) (bytH y hy)
end Go.Proofs.YtacolbfofamocaaGreat.sx
/- What came in, opened: the leaves of a type's cells; rows of data that stand in a world are rows that do not change. -/
namespace Go.Proofs.YtacolbfofamocaaGreat.sx
open Go Go.RowKit Go.ChangeShapes Go.WideShapes Go.ChangeAt
/-! ### Leaves -/
inductive Lf where
  | int (k : IntKind)
  | bool
  | str
  | sl (e : TypeId)
def lfRep (l : List Lf) : Nat → List Lf
  | 0 => []
  | n + 1 => l ++ lfRep l n
def lfFs (P : Program) (g : TypeId → Option (List Lf)) : List Field → Nat → Option (List Lf)
  | [], _ => some []
  | f :: fs, o => match g f.type with
    | some l => if f.offset = o ∧ l.length = P.cellsOf f.type then (lfFs P g fs (o + l.length)).map fun r => l ++ r else none
    | none => none
def lvs (P : Program) : Nat → TypeId → Option (List Lf)
  | 0, _ => none
  | n + 1, t => match P.underlying t with
    | some (.int k) => some [.int k]
    | some .bool => some [.bool]
    | some .string => some [.str]
    | some (.slice e) => some [.sl e]
    | some (.array m e) => match lvs P n e with
      | some l => if l.length = P.cellsOf e ∧ P.cellsOf t = m * l.length then some (lfRep l m) else none
      | none => none
    | some (.struct fs) => match lfFs P (lvs P n) fs.toList 0 with
      | some l => if l.length = P.cellsOf t then some l else none
      | none => none
    | _ => none
section
variable {H : Type} {enc : TypeId × Value → H} {P : Program} {W : World} {held : Bool}
abbrev Trd (enc : TypeId × Value → H) (P : Program) (W : World) (held : Bool) := DataW.trod enc P W 0 (fun _ => true) held
def LfOk (enc : TypeId × Value → H) (P : Program) (W : World) (held : Bool) (l : Lf) (v : Value) : Prop := match l with
  | .int k => ∃ n, v = .int k n ∧ (Lit.int k n).wf = true
  | .bool => ∃ b, v = .bool b
  | .str => ∃ s : ByteArray, v = .string s ∧ s.size ≤ maxLen
  | .sl e => v = .slice none 0 0 ∨ ∃ a len cap n, v = .slice (some a) len cap ∧ len ≤ cap ∧ cap ≤ maxLen ∧ ∀ i, i < len → ∃ cs x, W.cells? 0 (a.add (i * P.cellsOf e)) (P.cellsOf e) = some cs ∧ Trd enc P W held n e cs = some x
def LfAll (enc : TypeId × Value → H) (P : Program) (W : World) (held : Bool) (ls : List Lf) (cs : List Value) : Prop := ls.length = cs.length ∧ ∀ (i : Nat) (l : Lf) (v : Value), ls[i]? = some l → cs[i]? = some v → LfOk enc P W held l v
theorem LfAll.nil : LfAll enc P W held [] [] := ⟨rfl, fun i l v h => by simp at h⟩
theorem LfAll.app {a b : List Lf} {c d : List Value} (h : LfAll enc P W held a c) (k : LfAll enc P W held b d) : LfAll enc P W held (a ++ b) (c ++ d) := by
  refine ⟨by simp [h.1, k.1], fun i l v e e' => ?_⟩
  by_cases hi : i < a.length
  · rw [List.getElem?_append_left hi] at e
    rw [List.getElem?_append_left (by rw [← h.1]; exact hi)] at e'
    exact h.2 i l v e e'
  · rw [List.getElem?_append_right (by omega)] at e
    rw [List.getElem?_append_right (by rw [← h.1]; omega), ← h.1] at e'
    exact k.2 _ l v e e'
theorem LfAll.uncons {l : Lf} {ls : List Lf} {cs : List Value} (h : LfAll enc P W held (l :: ls) cs) : ∃ v r, cs = v :: r ∧ LfOk enc P W held l v ∧ LfAll enc P W held ls r := by
  obtain ⟨hl, hr⟩ := h
  cases cs with
  | nil => simp at hl
  | cons v r => exact ⟨v, r, rfl, hr 0 l v rfl rfl, by simpa using hl, fun i u u' a b => hr (i + 1) u u' (by simpa using a) (by simpa using b)⟩
theorem LfAll.nil_l {cs : List Value} (h : LfAll enc P W held [] cs) : cs = [] := List.eq_nil_of_length_eq_zero h.1.symm
theorem LfAll.one {l : Lf} {v : Value} (h : LfOk enc P W held l v) : LfAll enc P W held [l] [v] :=
  ⟨rfl, fun i l' v' e e' => by
    cases i with
    | zero => simp at e e'; subst e; subst e'; exact h
    | succ i => simp at e⟩
theorem lfFs_ok {g : TypeId → Option (List Lf)} {cs : List Value} (hg : ∀ t l cs' m x, g t = some l → Trd enc P W held m t cs' = some x → LfAll enc P W held l cs') :
    ∀ (fs : List Field) (o : Nat) (l : List Lf), lfFs P g fs o = some l → (∀ f ∈ fs, ∃ m x, Trd enc P W held m f.type ((cs.drop f.offset).take (P.cellsOf f.type)) = some x) →
      LfAll enc P W held l ((cs.drop o).take l.length)
  | [], o, l, h, _ => by cases h; simpa using LfAll.nil
  | f :: fs, o, l, h, hx => by
    unfold lfFs at h
    cases e : g f.type with
    | none => rw [e] at h; cases h
    | some l1 =>
      rw [e] at h
      simp only at h
      split at h
      · rename_i hc
        obtain ⟨ho, hl⟩ := hc
        cases e2 : lfFs P g fs (o + l1.length) with
        | none => rw [e2] at h; cases h
        | some l2 =>
          rw [e2] at h
          cases h
          obtain ⟨m, x, h1⟩ := hx f List.mem_cons_self
          rw [ho, ← hl] at h1
          have k1 := hg _ _ _ _ _ e h1
          have k2 := lfFs_ok hg fs _ _ e2 fun f hf => hx f (List.mem_cons_of_mem _ hf)
          have hlen := k1.1
          rw [List.length_append, List.take_add, List.drop_drop]
          exact k1.app k2
      · cases h
theorem lfRep_ok {l : List Lf} {cs : List Value} : ∀ (n : Nat) (o : Nat), (∀ i, i < n → LfAll enc P W held l ((cs.drop (o + i * l.length)).take l.length)) → LfAll enc P W held (lfRep l n) ((cs.drop o).take (n * l.length))
  | 0, o, _ => by simpa [lfRep] using LfAll.nil
  | n + 1, o, h => by
    have h0 := h 0 (by omega)
    rw [Nat.zero_mul, Nat.add_zero] at h0
    have h1 := lfRep_ok n (o + l.length) fun i hi => by
      have := h (i + 1) (by omega)
      rw [show o + (i + 1) * l.length = o + l.length + i * l.length by rw [Nat.add_mul]; omega] at this
      exact this
    rw [Nat.add_mul, Nat.one_mul, Nat.add_comm (n * l.length), List.take_add, List.drop_drop]
    exact h0.app h1
theorem lvs_ok : ∀ (n : Nat) (t : TypeId) (ls : List Lf) (cs : List Value) (m : Nat) (x : DataW H × List MemPlace), lvs P n t = some ls → Trd enc P W held m t cs = some x → LfAll enc P W held ls cs
  | 0, t, ls, cs, m, x, h, _ => by cases h
  | n + 1, t, ls, cs, m, x, h, hx => by
    unfold lvs at h
    cases hu : P.underlying t with
    | none => rw [hu] at h; cases h
    | some d =>
      rw [hu] at h
      cases d <;> simp only at h <;> (try (cases h; done))
      case bool =>
        cases h
        obtain ⟨b, rfl, _⟩ := DataW.trod_bool hu hx
        exact .one ⟨b, rfl⟩
      case int k =>
        cases h
        obtain ⟨v, rfl, _, hw⟩ := DataW.trod_int hu hx
        exact .one ⟨v, rfl, hw⟩
      case string =>
        cases h
        obtain ⟨s, rfl, _, hs⟩ := DataW.trod_string hu hx
        exact .one ⟨s, rfl, hs⟩
      case slice e =>
        cases h
        rcases Go.Deep.open_slice hu hx with ⟨rfl, _⟩ | ⟨a, len, cap, q, n', D, Pl, rfl, _, hl, hm, hmm, _, he⟩
        · exact .one (.inl rfl)
        · simp only [if_true] at hmm
          subst hmm
          refine .one (.inr ⟨a, len, q, n', rfl, hl, hm, fun i hi => ?_⟩)
          obtain ⟨cs', h1, h2⟩ := he i (by omega)
          exact ⟨cs', _, h1, h2⟩
      case array q e =>
        cases hl : lvs P n e with
        | none => rw [hl] at h; cases h
        | some l =>
          rw [hl] at h
          simp only at h
          split at h
          · rename_i hc
            cases h
            obtain ⟨xs, m', _, _, h1, h2, h3⟩ := DataW.trod_array hu hx
            have := lfRep_ok (enc := enc) (P := P) (W := W) (held := held) (l := l) (cs := cs) q 0 fun i hi => by
              have h4 := h3 i hi
              rw [List.getElem?_eq_getElem (by omega)] at h4
              rw [Nat.zero_add, hc.1]
              exact lvs_ok n e l _ _ _ hl h4
            rw [List.drop_zero, List.take_of_length_le (by omega)] at this
            exact this
          · cases h
      case struct fs =>
        cases hl : lfFs P (lvs P n) fs.toList 0 with
        | none => rw [hl] at h; cases h
        | some l =>
          rw [hl] at h
          simp only at h
          split at h
          · rename_i hc
            cases h
            obtain ⟨xs, m', _, _, h1, h2, h3⟩ := DataW.trod_struct hu hx
            have := lfFs_ok (enc := enc) (P := P) (W := W) (held := held) (g := lvs P n) (cs := cs) (fun t l cs' m x => lvs_ok n t l cs' m x) fs.toList 0 ls hl fun f hf => by
              obtain ⟨i, hi, rfl⟩ := List.getElem_of_mem hf
              have h4 := h3 i _ (by simpa using Array.getElem?_eq_getElem (xs := fs) (i := i) (by simpa using hi))
              rw [List.getElem?_eq_getElem (by simp at hi; omega)] at h4
              exact ⟨m', _, h4⟩
            rw [List.drop_zero, List.take_of_length_le (by omega)] at this
            exact this
          · cases h
end
end Go.Proofs.YtacolbfofamocaaGreat.sx
/- What came in, as data: rows of a code's things that stand in a world. -/
namespace Go.Proofs.YtacolbfofamocaaGreat.sx
open Go Go.RowKit Go.ChangeShapes Go.WideShapes Go.ChangeAt
/-! ### A world's cells as leaves -/
/-- a cell that is no slice, as a leaf -/
def leaf0 (v : Value) : Option (AV D.E) := match v with
  | .int k n => bif inR k n then some (.int k n) else none
  | .bool b => some (.bool b)
  | .string s => if s.data.toList.length ≤ 9223372036854775807 then some (.str s.data.toList) else none
  | _ => none
noncomputable def base0 (W : World) : Pm D := ⟨fun _ => none, fun b o => (W.cell? ⟨b, o, none⟩).bind leaf0⟩
/-- a slice's cell, as rows of code c -/
noncomputable def rowCell (c : Nat) (W : World) (v : Value) : Option (AV D.E) := @dite _ (∃ xs : List (D.E c), VR (base0 W) (.list c xs) v) (Classical.propDecidable _) (fun h => some (.list c h.choose)) (fun _ => none)
theorem rowCell_some {c : Nat} {W : World} {v : Value} {u : AV D.E} (h : rowCell c W v = some u) : ∃ xs : List (D.E c), u = .list c xs ∧ VR (base0 W) (.list c xs) v := by
  unfold rowCell at h
  split at h
  · rename_i hx; cases h; exact ⟨_, rfl, hx.choose_spec⟩
  · cases h
theorem rowCell_of {c : Nat} {W : World} {v : Value} {xs : List (D.E c)} (h : VR (base0 W) (.list c xs) v) : ∃ ys : List (D.E c), rowCell c W v = some (.list c ys) ∧ VR (base0 W) (.list c ys) v := by
  have hx : ∃ xs : List (D.E c), VR (base0 W) (.list c xs) v := ⟨xs, h⟩
  refine ⟨hx.choose, ?_, hx.choose_spec⟩
  unfold rowCell
  rw [dif_pos hx]
noncomputable def leaf1 (c : Nat) (W : World) (v : Value) : Option (AV D.E) := match leaf0 v with
  | some u => some u
  | none => rowCell c W v
/-- slices too -/
noncomputable def base1 (c : Nat) (W : World) : Pm D := ⟨fun _ => none, fun b o => (W.cell? ⟨b, o, none⟩).bind (leaf1 c W)⟩
theorem leaf0_VR {M : Pm D} {v : Value} {u : AV D.E} (h : leaf0 v = some u) : pure0 u = true ∧ VR M u v := by
  cases v <;> simp only [leaf0] at h <;> (try (cases h; done))
  case bool b => cases h; exact ⟨rfl, .bool b⟩
  case int k n =>
    cases hr : inR k n with
    | false => rw [hr] at h; cases h
    | true => rw [hr] at h; cases h; exact ⟨rfl, .int hr⟩
  case string s =>
    split at h
    · rename_i hs; cases h; exact ⟨rfl, .str hs⟩
    · cases h
theorem base01 (c : Nat) (W : World) : Le (base0 W) (base1 c W) := ⟨fun b mi h => (nomatch h), fun b o v h => by
  have h : (W.cell? ⟨b, o, none⟩).bind leaf0 = some v := h
  show (W.cell? ⟨b, o, none⟩).bind (leaf1 c W) = some v
  cases e : W.cell? ⟨b, o, none⟩ with
  | none => rw [e] at h; cases h
  | some u =>
    rw [e] at h
    have h : leaf0 u = some v := h
    show leaf1 c W u = some v
    unfold leaf1
    rw [h]⟩
theorem base1_sim (c : Nat) (W : World) : Sim (base1 c W) (fun _ => none) W := by
  refine ⟨fun b o h => (nomatch h), fun b b' o o' mi mi' h => (nomatch h), fun b o v h => ?_, fun b o mi h => (nomatch h), fun b c xs e mi h => (nomatch h)⟩
  have h : (W.cell? ⟨b, o, none⟩).bind (leaf1 c W) = some v := h
  cases e : W.cell? ⟨b, o, none⟩ with
  | none => rw [e] at h; cases h
  | some u =>
    rw [e] at h
    have h : leaf1 c W u = some v := h
    unfold leaf1 at h
    cases e2 : leaf0 u with
    | some u2 =>
      rw [e2] at h
      cases h
      have := leaf0_VR (M := base1 c W) e2
      exact ⟨this.1, u, rfl, this.2⟩
    | none =>
      rw [e2] at h
      obtain ⟨xs, rfl, hx⟩ := rowCell_some h
      exact ⟨rfl, u, rfl, hx.mono (base01 c W)⟩
/-- one value is one row -/
theorem row_one {M : Pm D} {c : Nat} {xs ys : List (D.E c)} {v : Value} (hinj : ∀ x y : D.E c, D.enc c x = D.enc c y → x = y) (h : VR M (.list c xs) v) (k : VR M (.list c ys) v) : xs = ys := by
  have key : ∀ {b o : Nat}, Sealed M b o c xs → Sealed M b o c ys → xs.length = ys.length → xs = ys := fun {b o} hs ks hl => by
    refine List.ext_getElem hl fun i h1 h2 => hinj _ _ (List.ext_getElem? fun j => ?_)
    by_cases hj : j < D.size c
    · have l1 : (D.enc c xs[i]).length = D.size c := D_ok.len c _
      have l2 : (D.enc c ys[i]).length = D.size c := D_ok.len c _
      rw [List.getElem?_eq_getElem (by omega), List.getElem?_eq_getElem (by omega)]
      have a1 := hs i h1 j _ (List.getElem?_eq_getElem (by omega))
      have a2 := ks i h2 j _ (List.getElem?_eq_getElem (by omega))
      rw [a1] at a2
      exact a2
    · have l1 : (D.enc c xs[i]).length = D.size c := D_ok.len c _
      have l2 : (D.enc c ys[i]).length = D.size c := D_ok.len c _
      rw [List.getElem?_eq_none (by omega), List.getElem?_eq_none (by omega)]
  generalize hv : v = v' at k
  cases h with
  | list hs hm hc =>
    cases k with
    | list ks km kc =>
      simp only [Value.slice.injEq, Option.some.injEq, Addr.mk.injEq] at hv
      obtain ⟨⟨rfl, rfl, _⟩, hl, _⟩ := hv
      exact key hs ks hl
    | listZ =>
      simp only [Value.slice.injEq] at hv
      exact List.eq_nil_of_length_eq_zero hv.2.1
  | listZ =>
    cases k with
    | list ks km kc =>
      simp only [Value.slice.injEq] at hv
      exact (List.eq_nil_of_length_eq_zero hv.2.1.symm).symm
    | listZ => rfl
/-- a slice's cell stands in the second picture -/
theorem base1_slice {c b o : Nat} {W : World} {xs : List (D.E c)} {v : Value} (hinj : ∀ x y : D.E c, D.enc c x = D.enc c y → x = y) (h : VR (base0 W) (.list c xs) v) (hc : W.cell? ⟨b, o, none⟩ = some v) : (base1 c W).sg b o = some (.list c xs) := by
  show (W.cell? ⟨b, o, none⟩).bind (leaf1 c W) = _
  rw [hc]
  show leaf1 c W v = _
  have e : leaf0 v = none := by cases h <;> rfl
  unfold leaf1
  rw [e]
  obtain ⟨ys, h1, h2⟩ := rowCell_of h
  show rowCell c W v = _
  rw [h1, row_one hinj h2 h]
/-! ### Rows -/
section
variable {H : Type} {enc : TypeId × Value → H} {P : Program} {W : World} {held : Bool} {M : Pm D}
/-- what the cells say, wherever they stand in the world -/
def CellsOk (M : Pm D) (W : World) (l : List (AV D.E)) (cs : List Value) : Prop := l.length = cs.length ∧ ∀ (j : Nat) (u : AV D.E) (v : Value), l[j]? = some u → cs[j]? = some v → ∀ b o, W.cell? ⟨b, o, none⟩ = some v → M.sg b o = some u
theorem CellsOk.nil : CellsOk M W [] [] := ⟨rfl, fun j u v h => by simp at h⟩
theorem CellsOk.cons {u : AV D.E} {v : Value} {l : List (AV D.E)} {cs : List Value} (h : ∀ b o, W.cell? ⟨b, o, none⟩ = some v → M.sg b o = some u) (k : CellsOk M W l cs) : CellsOk M W (u :: l) (v :: cs) :=
  ⟨by simp [k.1], fun j u' v' e e' => by
    cases j with
    | zero => simp at e e'; subst e; subst e'; exact h
    | succ j => exact k.2 j u' v' (by simpa using e) (by simpa using e')⟩
theorem row_of {c : Nat} {e : TypeId} {v : Value} (hP : P.cellsOf e = D.size c) (hp : 0 < D.size c)
    (hel : ∀ n cs x, Trd enc P W held n e cs = some x → ∃ y : D.E c, CellsOk M W (D.enc c y) cs) (h : LfOk enc P W held (.sl e) v) :
    ∃ xs : List (D.E c), VR M (.list c xs) v ∧ ∃ a cap, v = .slice a xs.length cap := by
  rcases h with rfl | ⟨a, len, cap, n, rfl, hl, hm, hx⟩
  · exact ⟨[], .listZ, none, 0, rfl⟩
  · by_cases h0 : len = 0
    · subst h0
      exact ⟨[], .listZ, some a, cap, rfl⟩
    have hr : ∀ i, i < len → ∃ y : D.E c, ∃ cs, W.cells? 0 (a.add (i * D.size c)) (D.size c) = some cs ∧ CellsOk M W (D.enc c y) cs := fun i hi => by
      obtain ⟨cs, x, h1, h2⟩ := hx i hi
      rw [hP] at h1
      obtain ⟨y, hy⟩ := hel n cs x h2
      exact ⟨y, cs, h1, hy⟩
    haveI : Inhabited (D.E c) := ⟨D.dfl c⟩
    obtain ⟨f, hf⟩ := Go.Deep.choose_lt hr
    obtain ⟨b, o, sp⟩ := a
    obtain ⟨cs0, c1, c2⟩ := hf 0 (by omega)
    have e0 : ((⟨b, o, sp⟩ : Addr).add (0 * D.size c)).add 0 = ⟨b, o, sp⟩ := by simp [Addr.add]
    have h3 := (World.cells?_some c1).2.2 0 hp
    rw [e0] at h3
    have hl0 : (D.enc c (f 0)).length = D.size c := D_ok.len c _
    rw [List.getElem?_eq_getElem (by rw [← c2.1, hl0]; exact hp)] at h3
    obtain rfl : sp = none := by
      cases sp with
      | none => rfl
      | some s =>
        simp only [World.cell?] at h3
        split at h3 <;> simp at h3
    refine ⟨(List.range len).map f, ?_, some ⟨b, o, none⟩, cap, by simp⟩
    have hlen : ((List.range len).map f).length = len := by simp
    have hv : VR M (.list c ((List.range len).map f)) (.slice (some ⟨b, o, none⟩) ((List.range len).map f).length cap) := by
      refine .list (fun i hi j u hu => ?_) (by rw [hlen]; unfold maxLen at hm; omega) (by rw [hlen]; exact hl)
      have hi2 : i < len := by simpa using hi
      simp only [List.getElem_map, List.getElem_range] at hu
      obtain ⟨cs, d1, d2⟩ := hf i hi2
      have hj : j < D.size c := by rw [← D_ok.len c (f i)]; exact (List.getElem?_eq_some_iff.1 hu).1
      have h4 := (World.cells?_some d1).2.2 j hj
      have ea : ((⟨b, o, none⟩ : Addr).add (i * D.size c)).add j = ⟨b, o + i * D.size c + j, none⟩ := by
        rw [Addr.add_lit, Addr.add_lit]
      rw [ea, List.getElem?_eq_getElem (by rw [← d2.1, D_ok.len]; exact hj)] at h4
      exact d2.2 j u _ hu (List.getElem?_eq_getElem _) _ _ h4
    rw [hlen] at hv
    exact hv
end
end Go.Proofs.YtacolbfofamocaaGreat.sx
/- Streams and rows of bytes that came in, opened. -/
namespace Go.Proofs.YtacolbfofamocaaGreat.sx
open Go Go.RowKit Go.ChangeShapes Go.WideShapes Go.ChangeAt
set_option maxRecDepth 100000
theorem wf_inR {k : IntKind} {n : Int} (h : (Lit.int k n).wf = true) : inR k n = true := by
  rw [inR_iff]
  cases k <;> simp [Lit.wf, IntKind.min, IntKind.max, IntKind.signed, IntKind.bits] at h <;> simp [kMn, kMx] <;> omega
section
variable {H : Type} {enc : TypeId × Value → H} {W : World} {held : Bool} {M : Pm D}
theorem cok_int {k : IntKind} {n : Int} (hM : SLe (base0 W) M) (h : (Lit.int k n).wf = true) : ∀ b o, W.cell? ⟨b, o, none⟩ = some (.int k n) → M.sg b o = some (.int k n) := fun b o hc => hM b o _ (by
  show (W.cell? ⟨b, o, none⟩).bind leaf0 = _
  rw [hc]
  show leaf0 (.int k n) = _
  simp only [leaf0, wf_inR h, cond_true])
theorem cok_bool {v : Bool} (hM : SLe (base0 W) M) : ∀ b o, W.cell? ⟨b, o, none⟩ = some (.bool v) → M.sg b o = some (.bool v) := fun b o hc => hM b o _ (by
  show (W.cell? ⟨b, o, none⟩).bind leaf0 = _
  rw [hc]
  rfl)
theorem open_u8 (hM : SLe (base0 W) M) (n : Nat) (cs : List Value) (x : DataW H × List MemPlace) (h : Trd enc Tryz.prog W held n 5 cs = some x) : ∃ y : D.E 0, CellsOk M W (D.enc 0 y) cs := by
  have hl := lvs_ok 8 5 [.int .u8] cs n x (by kernel_rfl) h
  obtain ⟨v, r, rfl, ⟨m, rfl, hw⟩, h2⟩ := hl.uncons
  obtain rfl := h2.nil_l
  refine ⟨b8 m, ?_⟩
  have e : D.enc 0 (b8 m) = [.int .u8 m] := by
    show [AV.int .u8 ((b8 m).toNat : Int)] = _
    rw [b8_toNat (wf_inR hw)]; rfl
  rw [e]
  exact .cons (cok_int hM hw) .nil
theorem open_thr (hM : SLe (base0 W) M) (n : Nat) (cs : List Value) (x : DataW H × List MemPlace) (h : Trd enc Tryz.prog W held n 117 cs = some x) : ∃ y : D.E 1, CellsOk M W (D.enc 1 y) cs := by
  have g0 := lvs_ok 8 117 [.int .i64, .int .i64, .int .i64, .int .i64, .int .i64, .int .i64, .int .i64, .int .i64, .int .i64, .int .i64, .int .i64] cs n x (by kernel_rfl) h
  obtain ⟨v, r, rfl, ⟨m, rfl, w⟩, g1⟩ := g0.uncons
  obtain ⟨v, r, rfl, ⟨m0, rfl, w0⟩, g2⟩ := g1.uncons
  obtain ⟨v, r, rfl, ⟨m1, rfl, w1⟩, g3⟩ := g2.uncons
  obtain ⟨v, r, rfl, ⟨m2, rfl, w2⟩, g4⟩ := g3.uncons
  obtain ⟨v, r, rfl, ⟨m3, rfl, w3⟩, g5⟩ := g4.uncons
  obtain ⟨v, r, rfl, ⟨m4, rfl, w4⟩, g6⟩ := g5.uncons
  obtain ⟨v, r, rfl, ⟨m5, rfl, w5⟩, g7⟩ := g6.uncons
  obtain ⟨v, r, rfl, ⟨m6, rfl, w6⟩, g8⟩ := g7.uncons
  obtain ⟨v, r, rfl, ⟨m7, rfl, w7⟩, g9⟩ := g8.uncons
  obtain ⟨v, r, rfl, ⟨m8, rfl, w8⟩, g10⟩ := g9.uncons
  obtain ⟨v, r, rfl, ⟨m9, rfl, w9⟩, g11⟩ := g10.uncons
  obtain rfl := g11.nil_l
  exact ⟨(⟨m, m0, m1, m2, m3, m4, m5, m6, m7, m8, m9⟩ : Thread), .cons (cok_int hM w) (.cons (cok_int hM w0) (.cons (cok_int hM w1) (.cons (cok_int hM w2) (.cons (cok_int hM w3) (.cons (cok_int hM w4) (.cons (cok_int hM w5) (.cons (cok_int hM w6) (.cons (cok_int hM w7) (.cons (cok_int hM w8) (.cons (cok_int hM w9) .nil))))))))))⟩
theorem inj_thr (x y : D.E 1) (h : D.enc 1 x = D.enc 1 y) : x = y := by
  have e : ∀ z : Thread, dec1 (encD 1 z) = some z := fun z => rfl
  have h2 : dec1 (encD 1 x) = dec1 (encD 1 y) := congrArg dec1 h
  exact Option.some.inj ((e x).symm.trans (h2.trans (e y)))
theorem open_lst (n : Nat) (cs : List Value) (x : DataW H × List MemPlace) (h : Trd enc Tryz.prog W held n 54 cs = some x) : ∃ y : D.E 2, CellsOk (base1 1 W) W (D.enc 2 y) cs := by
  have g0 := lvs_ok 8 54 [.bool, .int .i64, .int .i64, .int .i64, .int .i64, .int .i64, .int .i64, .int .i64, .int .i64, .int .i64, .int .i64, .sl 117] cs n x (by kernel_rfl) h
  have hM := (base01 1 W).2
  obtain ⟨v, r, rfl, ⟨m, rfl⟩, g1⟩ := g0.uncons
  obtain ⟨v, r, rfl, ⟨m0, rfl, w0⟩, g2⟩ := g1.uncons
  obtain ⟨v, r, rfl, ⟨m1, rfl, w1⟩, g3⟩ := g2.uncons
  obtain ⟨v, r, rfl, ⟨m2, rfl, w2⟩, g4⟩ := g3.uncons
  obtain ⟨v, r, rfl, ⟨m3, rfl, w3⟩, g5⟩ := g4.uncons
  obtain ⟨v, r, rfl, ⟨m4, rfl, w4⟩, g6⟩ := g5.uncons
  obtain ⟨v, r, rfl, ⟨m5, rfl, w5⟩, g7⟩ := g6.uncons
  obtain ⟨v, r, rfl, ⟨m6, rfl, w6⟩, g8⟩ := g7.uncons
  obtain ⟨v, r, rfl, ⟨m7, rfl, w7⟩, g9⟩ := g8.uncons
  obtain ⟨v, r, rfl, ⟨m8, rfl, w8⟩, g10⟩ := g9.uncons
  obtain ⟨v, r, rfl, ⟨m9, rfl, w9⟩, g11⟩ := g10.uncons
  obtain ⟨v, r, rfl, hs, g12⟩ := g11.uncons
  obtain rfl := g12.nil_l
  obtain ⟨xs, hv, _⟩ := row_of (c := 1) (M := base0 W) (by kernel_rfl) (by exact Nat.le_of_ble_eq_true (by kernel_rfl)) (fun n cs x h => open_thr (fun _ _ _ h => h) n cs x h) hs
  exact ⟨(⟨m, m0, m1, m2, m3, m4, m5, m6, m7, m8, m9, xs⟩ : Lst), .cons (cok_bool hM) (.cons (cok_int hM w0) (.cons (cok_int hM w1) (.cons (cok_int hM w2) (.cons (cok_int hM w3) (.cons (cok_int hM w4) (.cons (cok_int hM w5) (.cons (cok_int hM w6) (.cons (cok_int hM w7) (.cons (cok_int hM w8) (.cons (cok_int hM w9)
    (.cons (fun b o hc => base1_slice inj_thr hv hc) .nil)))))))))))⟩
/-- a row of bytes, a row of lists -/
theorem row_u8 {v : Value} (h : LfOk enc Tryz.prog W held (.sl 5) v) : ∃ xs : By, VR (base1 1 W) (.list 0 (xs : List (D.E 0))) v ∧ ∃ a cap, v = .slice a xs.length cap :=
  row_of (c := 0) (by kernel_rfl) (by exact Nat.le_of_ble_eq_true (by kernel_rfl)) (fun n cs x h => open_u8 (base01 1 W).2 n cs x h) h
theorem row_lst {v : Value} (h : LfOk enc Tryz.prog W held (.sl 54) v) : ∃ xs : List Lst, VR (base1 1 W) (.list 2 (xs : List (D.E 2))) v := by
  obtain ⟨xs, h, _⟩ := row_of (c := 2) (by kernel_rfl) (by exact Nat.le_of_ble_eq_true (by kernel_rfl)) (fun n cs x h => open_lst n cs x h) h
  exact ⟨xs, h⟩
theorem open_strm {n : Nat} {cs : List Value} {x : DataW H × List MemPlace} (h : Trd enc Tryz.prog W held n 29 cs = some x) : ∃ y : Strm, LR (base1 1 W) (strmL y) cs := by
  have g0 := lvs_ok 8 29 [.int .i64, .int .i64, .bool, .bool, .int .i64, .int .i64, .sl 54, .sl 5, .int .i64, .sl 54, .sl 5, .int .i64, .sl 54, .sl 5, .int .i64, .sl 54] cs n x (by kernel_rfl) h
  obtain ⟨v, r, rfl, ⟨m0, rfl, w0⟩, g1⟩ := g0.uncons
  obtain ⟨v, r, rfl, ⟨m1, rfl, w1⟩, g2⟩ := g1.uncons
  obtain ⟨v, r, rfl, ⟨m2, rfl⟩, g3⟩ := g2.uncons
  obtain ⟨v, r, rfl, ⟨m3, rfl⟩, g4⟩ := g3.uncons
  obtain ⟨v, r, rfl, ⟨m4, rfl, w4⟩, g5⟩ := g4.uncons
  obtain ⟨v, r, rfl, ⟨m5, rfl, w5⟩, g6⟩ := g5.uncons
  obtain ⟨v, r, rfl, s6, g7⟩ := g6.uncons
  obtain ⟨l6, e6⟩ := row_lst s6
  obtain ⟨v, r, rfl, s7, g8⟩ := g7.uncons
  obtain ⟨l7, e7, _⟩ := row_u8 s7
  obtain ⟨v, r, rfl, ⟨m8, rfl, w8⟩, g9⟩ := g8.uncons
  obtain ⟨v, r, rfl, s9, g10⟩ := g9.uncons
  obtain ⟨l9, e9⟩ := row_lst s9
  obtain ⟨v, r, rfl, s10, g11⟩ := g10.uncons
  obtain ⟨l10, e10, _⟩ := row_u8 s10
  obtain ⟨v, r, rfl, ⟨m11, rfl, w11⟩, g12⟩ := g11.uncons
  obtain ⟨v, r, rfl, s12, g13⟩ := g12.uncons
  obtain ⟨l12, e12⟩ := row_lst s12
  obtain ⟨v, r, rfl, s13, g14⟩ := g13.uncons
  obtain ⟨l13, e13, _⟩ := row_u8 s13
  obtain ⟨v, r, rfl, ⟨m14, rfl, w14⟩, g15⟩ := g14.uncons
  obtain ⟨v, r, rfl, s15, g16⟩ := g15.uncons
  obtain ⟨l15, e15⟩ := row_lst s15
  obtain rfl := g16.nil_l
  exact ⟨⟨m0, m1, m2, m3, m4, m5, l6, ⟨l7, m8, l9⟩, ⟨l10, m11, l12⟩, ⟨l13, m14, l15⟩⟩, .cons (.int (wf_inR w0)) (.cons (.int (wf_inR w1)) (.cons (.bool m2) (.cons (.bool m3) (.cons (.int (wf_inR w4)) (.cons (.int (wf_inR w5)) (.cons e6 (.cons e7 (.cons (.int (wf_inR w8)) (.cons e9 (.cons e10 (.cons (.int (wf_inR w11)) (.cons e12 (.cons e13 (.cons (.int (wf_inR w14)) (.cons e15 .nil)))))))))))))))⟩
end
end Go.Proofs.YtacolbfofamocaaGreat.sx
