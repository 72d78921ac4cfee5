/- The table of data: what the elements of slices are. -/
import Derived.Test.YtacolbfofamocaaGreatSxE
import Derived.Test.YtacolbfofamocaaGreatProg
import Derived.KernelRfl
namespace Go.Proofs.YtacolbfofamocaaGreat.sx
open Go Go.RowKit
noncomputable section
structure Thread where
  pc : Int
  c0 : Int
  c1 : Int
  c2 : Int
  c3 : Int
  c4 : Int
  c5 : Int
  c6 : Int
  c7 : Int
  c8 : Int
  c9 : Int
structure Lst where
  done : Bool
  c0 : Int
  c1 : Int
  c2 : Int
  c3 : Int
  c4 : Int
  c5 : Int
  c6 : Int
  c7 : Int
  c8 : Int
  c9 : Int
  threads : List Thread
structure Pat where
  name : List UInt8
  text : List UInt8
structure Found where
  kind : Int
  pos : Int
  rule : Int
  c0 : Int
  c1 : Int
  c2 : Int
  c3 : Int
  c4 : Int
  c5 : Int
  c6 : Int
  c7 : Int
  c8 : Int
  c9 : Int
structure Rng where
  lo : Int
  hi : Int
structure Node where
  op : Int
  ranges : List Rng
  mn : Int
  mx : Int
  lazy : Bool
  cap : Int
  kids : Int
structure Ins where
  op : Int
  x : Int
  y : Int
  ranges : List Rng
structure Caps where
  c0 : Int
  c1 : Int
  c2 : Int
  c3 : Int
  c4 : Int
  c5 : Int
  c6 : Int
  c7 : Int
  c8 : Int
  c9 : Int
def El (c : Nat) : Type := match c with
  | 0 => UInt8
  | 1 => Thread
  | 2 => Lst
  | 3 => Pat
  | 4 => Found
  | 5 => Int
  | 6 => Rng
  | 7 => Node
  | 8 => Ins
  | 9 => List Node
  | 10 => List UInt8
  | 11 => Caps
  | 12 => List Lst
  | _ => Unit
def szD (c : Nat) : Nat := match c with
  | 0 => 1
  | 1 => 11
  | 2 => 12
  | 3 => 2
  | 4 => 13
  | 5 => 1
  | 6 => 2
  | 7 => 7
  | 8 => 4
  | 9 => 1
  | 10 => 1
  | 11 => 10
  | 12 => 1
  | _ => 1
def encD (c : Nat) : El c → List (AV El) := match c with
  | 0 => fun (x : UInt8) => [.int .u8 x.toNat]
  | 1 => fun (x : Thread) => [.int .i64 x.pc, .int .i64 x.c0, .int .i64 x.c1, .int .i64 x.c2, .int .i64 x.c3, .int .i64 x.c4, .int .i64 x.c5, .int .i64 x.c6, .int .i64 x.c7, .int .i64 x.c8, .int .i64 x.c9]
  | 2 => fun (x : Lst) => [.bool x.done, .int .i64 x.c0, .int .i64 x.c1, .int .i64 x.c2, .int .i64 x.c3, .int .i64 x.c4, .int .i64 x.c5, .int .i64 x.c6, .int .i64 x.c7, .int .i64 x.c8, .int .i64 x.c9, .list 1 x.threads]
  | 3 => fun (x : Pat) => [.str x.name, .str x.text]
  | 4 => fun (x : Found) => [.int .i64 x.kind, .int .i64 x.pos, .int .i64 x.rule, .int .i64 x.c0, .int .i64 x.c1, .int .i64 x.c2, .int .i64 x.c3, .int .i64 x.c4, .int .i64 x.c5, .int .i64 x.c6, .int .i64 x.c7, .int .i64 x.c8, .int .i64 x.c9]
  | 5 => fun (x : Int) => [.int .i64 x]
  | 6 => fun (x : Rng) => [.int .i32 x.lo, .int .i32 x.hi]
  | 7 => fun (x : Node) => [.int .i64 x.op, .list 6 x.ranges, .int .i64 x.mn, .int .i64 x.mx, .bool x.lazy, .int .i64 x.cap, .int .i64 x.kids]
  | 8 => fun (x : Ins) => [.int .i64 x.op, .int .i64 x.x, .int .i64 x.y, .list 6 x.ranges]
  | 9 => fun (x : List Node) => [.list 7 x]
  | 10 => fun (x : List UInt8) => [.str x]
  | 11 => fun (x : Caps) => [.int .i64 x.c0, .int .i64 x.c1, .int .i64 x.c2, .int .i64 x.c3, .int .i64 x.c4, .int .i64 x.c5, .int .i64 x.c6, .int .i64 x.c7, .int .i64 x.c8, .int .i64 x.c9]
  | 12 => fun (x : List Lst) => [.list 2 x]
  | _ => fun _ => [.int .i64 0]
def decI (k : IntKind) (v : AV El) : Option Int := match v with
  | .int k' n => oI (kEq k k') (some n)
  | .num k' n => oI (kEq k k') (some n)
  | _ => none
def decB (v : AV El) : Option Bool := match v with
  | .bool b => some b
  | .lit b => some b
  | _ => none
def decS (v : AV El) : Option (List UInt8) := match v with
  | .str s => some s
  | _ => none
def castO (c c' : Nat) (xs : List (El c')) : Option (List (El c)) := Decidable.rec (motive := fun _ => Option (List (El c))) (fun _ => none) (fun h => some (Eq.rec (motive := fun c _ => List (El c)) xs h)) (Nat.decEq c' c)
def decL (c : Nat) (v : AV El) : Option (List (El c)) := match v with
  | .list c' xs => castO c c' xs
  | .grow c' xs _ => castO c c' xs
  | .snil => some []
  | _ => none
def b8 (n : Int) : UInt8 := UInt8.ofNat n.toNat
def dec0 (l : List (AV El)) : Option (El 0) := match l with
  | [a0] => oB (decI .u8 a0) fun a0 => some (b8 a0)
  | _ => none
def dec1 (l : List (AV El)) : Option (El 1) := match l with
  | [a0, a1, a2, a3, a4, a5, a6, a7, a8, a9, a10] => oB (decI .i64 a0) fun a0 => oB (decI .i64 a1) fun a1 => oB (decI .i64 a2) fun a2 => oB (decI .i64 a3) fun a3 => oB (decI .i64 a4) fun a4 => oB (decI .i64 a5) fun a5 => oB (decI .i64 a6) fun a6 => oB (decI .i64 a7) fun a7 => oB (decI .i64 a8) fun a8 => oB (decI .i64 a9) fun a9 => oB (decI .i64 a10) fun a10 => some (Thread.mk a0 a1 a2 a3 a4 a5 a6 a7 a8 a9 a10)
  | _ => none
def dec2 (l : List (AV El)) : Option (El 2) := match l with
  | [a0, a1, a2, a3, a4, a5, a6, a7, a8, a9, a10, a11] => oB (decB a0) fun a0 => oB (decI .i64 a1) fun a1 => oB (decI .i64 a2) fun a2 => oB (decI .i64 a3) fun a3 => oB (decI .i64 a4) fun a4 => oB (decI .i64 a5) fun a5 => oB (decI .i64 a6) fun a6 => oB (decI .i64 a7) fun a7 => oB (decI .i64 a8) fun a8 => oB (decI .i64 a9) fun a9 => oB (decI .i64 a10) fun a10 => oB (decL 1 a11) fun a11 => some (Lst.mk a0 a1 a2 a3 a4 a5 a6 a7 a8 a9 a10 a11)
  | _ => none
def dec3 (l : List (AV El)) : Option (El 3) := match l with
  | [a0, a1] => oB (decS a0) fun a0 => oB (decS a1) fun a1 => some (Pat.mk a0 a1)
  | _ => none
def dec4 (l : List (AV El)) : Option (El 4) := match l with
  | [a0, a1, a2, a3, a4, a5, a6, a7, a8, a9, a10, a11, a12] => oB (decI .i64 a0) fun a0 => oB (decI .i64 a1) fun a1 => oB (decI .i64 a2) fun a2 => oB (decI .i64 a3) fun a3 => oB (decI .i64 a4) fun a4 => oB (decI .i64 a5) fun a5 => oB (decI .i64 a6) fun a6 => oB (decI .i64 a7) fun a7 => oB (decI .i64 a8) fun a8 => oB (decI .i64 a9) fun a9 => oB (decI .i64 a10) fun a10 => oB (decI .i64 a11) fun a11 => oB (decI .i64 a12) fun a12 => some (Found.mk a0 a1 a2 a3 a4 a5 a6 a7 a8 a9 a10 a11 a12)
  | _ => none
def dec5 (l : List (AV El)) : Option (El 5) := match l with
  | [a0] => oB (decI .i64 a0) fun a0 => some a0
  | _ => none
def dec6 (l : List (AV El)) : Option (El 6) := match l with
  | [a0, a1] => oB (decI .i32 a0) fun a0 => oB (decI .i32 a1) fun a1 => some (Rng.mk a0 a1)
  | _ => none
def dec7 (l : List (AV El)) : Option (El 7) := match l with
  | [a0, a1, a2, a3, a4, a5, a6] => oB (decI .i64 a0) fun a0 => oB (decL 6 a1) fun a1 => oB (decI .i64 a2) fun a2 => oB (decI .i64 a3) fun a3 => oB (decB a4) fun a4 => oB (decI .i64 a5) fun a5 => oB (decI .i64 a6) fun a6 => some (Node.mk a0 a1 a2 a3 a4 a5 a6)
  | _ => none
def dec8 (l : List (AV El)) : Option (El 8) := match l with
  | [a0, a1, a2, a3] => oB (decI .i64 a0) fun a0 => oB (decI .i64 a1) fun a1 => oB (decI .i64 a2) fun a2 => oB (decL 6 a3) fun a3 => some (Ins.mk a0 a1 a2 a3)
  | _ => none
def dec9 (l : List (AV El)) : Option (El 9) := match l with
  | [a0] => oB (decL 7 a0) fun a0 => some a0
  | _ => none
def dec10 (l : List (AV El)) : Option (El 10) := match l with
  | [a0] => oB (decS a0) fun a0 => some a0
  | _ => none
def dec11 (l : List (AV El)) : Option (El 11) := match l with
  | [a0, a1, a2, a3, a4, a5, a6, a7, a8, a9] => oB (decI .i64 a0) fun a0 => oB (decI .i64 a1) fun a1 => oB (decI .i64 a2) fun a2 => oB (decI .i64 a3) fun a3 => oB (decI .i64 a4) fun a4 => oB (decI .i64 a5) fun a5 => oB (decI .i64 a6) fun a6 => oB (decI .i64 a7) fun a7 => oB (decI .i64 a8) fun a8 => oB (decI .i64 a9) fun a9 => some (Caps.mk a0 a1 a2 a3 a4 a5 a6 a7 a8 a9)
  | _ => none
def dec12 (l : List (AV El)) : Option (El 12) := match l with
  | [a0] => oB (decL 2 a0) fun a0 => some a0
  | _ => none
def decD (c : Nat) (l : List (AV El)) : Option (El c) := match c with
  | 0 => dec0 l
  | 1 => dec1 l
  | 2 => dec2 l
  | 3 => dec3 l
  | 4 => dec4 l
  | 5 => dec5 l
  | 6 => dec6 l
  | 7 => dec7 l
  | 8 => dec8 l
  | 9 => dec9 l
  | 10 => dec10 l
  | 11 => dec11 l
  | 12 => dec12 l
  | _ => none
def dflD (c : Nat) : El c := match c with
  | 0 => (0 : UInt8)
  | 1 => Thread.mk 0 0 0 0 0 0 0 0 0 0 0
  | 2 => Lst.mk false 0 0 0 0 0 0 0 0 0 0 []
  | 3 => Pat.mk [] []
  | 4 => Found.mk 0 0 0 0 0 0 0 0 0 0 0 0 0
  | 5 => (0 : Int)
  | 6 => Rng.mk 0 0
  | 7 => Node.mk 0 [] 0 0 false 0 0
  | 8 => Ins.mk 0 0 0 []
  | 9 => ([] : List Node)
  | 10 => ([] : List UInt8)
  | 11 => Caps.mk 0 0 0 0 0 0 0 0 0 0
  | 12 => ([] : List Lst)
  | (_ + 13) => ()
def D : Data := ⟨El, szD, encD, decD, dflD, 0, fun xs => xs, fun xs => xs⟩
end
section
variable {M : Pm D} {v : AV D.E} {val : Value}
theorem decI_VR {k : IntKind} {n : Int} (h : decI k v = some n) (hv : VR M v val) : VR M (.int k n : AV D.E) val ∧ inR k n = true := by
  cases hv <;> simp only [decI] at h <;> (try (cases h; done))
  case int k' n' hr =>
    obtain ⟨h1, h2⟩ := oI_some.1 h
    cases h2
    rw [kEq_iff.1 h1]
    exact ⟨.int hr, hr⟩
  case num k' n' hr =>
    obtain ⟨h1, h2⟩ := oI_some.1 h
    cases h2
    rw [kEq_iff.1 h1]
    exact ⟨.int hr, hr⟩
theorem decB_VR {b : Bool} (h : decB v = some b) (hv : VR M v val) : VR M (.bool b : AV D.E) val := by
  cases hv <;> simp only [decB] at h <;> (try (cases h; done))
  · cases h; exact .bool _
  · cases h; exact .bool _
theorem decS_VR {s : List UInt8} (h : decS v = some s) (hv : VR M v val) : VR M (.str s : AV D.E) val := by
  cases hv <;> simp only [decS] at h <;> (try (cases h; done))
  cases h
  exact .str (by assumption)
theorem castO_some {c c' : Nat} {xs : List (El c')} {ys : List (El c)} (h : castO c c' xs = some ys) : ∃ e : c' = c, e ▸ xs = ys := by
  unfold castO at h
  cases hd : Nat.decEq c' c with
  | isFalse hn => rw [hd] at h; cases h
  | isTrue he => rw [hd] at h; subst he; exact ⟨rfl, Option.some.inj h⟩
theorem decL_VR {c : Nat} {xs : List (El c)} (h : decL c v = some xs) (hv : VR M v val) : VR M (.list c xs : AV D.E) val := by
  cases v <;> simp only [decL] at h <;> (try (cases h; done))
  · cases h; cases hv; exact .listZ
  · obtain ⟨rfl, rfl⟩ := castO_some h
    cases hv with
    | grow h hr hl hz hs hm hc ht => exact .list hs hm hc
    | growV h hr => exact .listZ
  · obtain ⟨rfl, rfl⟩ := castO_some h
    exact hv
theorem b8_toNat {n : Int} (h : inR .u8 n = true) : ((b8 n).toNat : Int) = n := by
  rw [inR_iff] at h
  simp only [kMn, kMx] at h
  unfold b8
  rw [UInt8.toNat_ofNat']
  omega
/-- a row of cells, one by one -/
def RowR (row enc : List (AV D.E)) : Prop := row.length = enc.length ∧ ∀ (j : Nat) (a a' : AV D.E), row[j]? = some a → enc[j]? = some a' → ∀ (M : Pm D) (v : Value), VR M a v → VR (D := D) M a' v
theorem RowR.nil : RowR [] [] := ⟨rfl, fun j a a' h => by simp at h⟩
theorem RowR.cons {a a' : AV D.E} {r e : List (AV D.E)} (h : ∀ (M : Pm D) (v : Value), VR M a v → VR (D := D) M a' v) (hr : RowR r e) : RowR (a :: r) (a' :: e) :=
  ⟨by simp [hr.1], fun j x x' e1 e2 => by
    cases j with
    | zero => simp at e1 e2; subst e1; subst e2; exact h
    | succ j => exact hr.2 j x x' (by simpa using e1) (by simpa using e2)⟩
end
theorem dec0_ok {row : List (AV El)} {x : El 0} (h : dec0 row = some x) : RowR row (encD 0 x) := by
  unfold dec0 at h
  split at h
  · rename_i a0
    obtain ⟨x0, e0, h⟩ := oB_some.1 h
    cases h
    exact .cons (fun M v hv => by
      obtain ⟨h1, h2⟩ := decI_VR e0 hv
      show VR M (.int .u8 ((b8 x0).toNat : Int)) v
      rw [b8_toNat h2]
      exact h1) .nil
  · cases h
theorem dec1_ok {row : List (AV El)} {x : El 1} (h : dec1 row = some x) : RowR row (encD 1 x) := by
  unfold dec1 at h
  split at h
  · rename_i a0 a1 a2 a3 a4 a5 a6 a7 a8 a9 a10
    obtain ⟨x0, e0, h⟩ := oB_some.1 h
    obtain ⟨x1, e1, h⟩ := oB_some.1 h
    obtain ⟨x2, e2, h⟩ := oB_some.1 h
    obtain ⟨x3, e3, h⟩ := oB_some.1 h
    obtain ⟨x4, e4, h⟩ := oB_some.1 h
    obtain ⟨x5, e5, h⟩ := oB_some.1 h
    obtain ⟨x6, e6, h⟩ := oB_some.1 h
    obtain ⟨x7, e7, h⟩ := oB_some.1 h
    obtain ⟨x8, e8, h⟩ := oB_some.1 h
    obtain ⟨x9, e9, h⟩ := oB_some.1 h
    obtain ⟨x10, e10, h⟩ := oB_some.1 h
    cases h
    exact .cons (fun _ _ hv => (decI_VR e0 hv).1) (.cons (fun _ _ hv => (decI_VR e1 hv).1) (.cons (fun _ _ hv => (decI_VR e2 hv).1) (.cons (fun _ _ hv => (decI_VR e3 hv).1) (.cons (fun _ _ hv => (decI_VR e4 hv).1) (.cons (fun _ _ hv => (decI_VR e5 hv).1) (.cons (fun _ _ hv => (decI_VR e6 hv).1) (.cons (fun _ _ hv => (decI_VR e7 hv).1) (.cons (fun _ _ hv => (decI_VR e8 hv).1) (.cons (fun _ _ hv => (decI_VR e9 hv).1) (.cons (fun _ _ hv => (decI_VR e10 hv).1) .nil))))))))))
  · cases h
theorem dec2_ok {row : List (AV El)} {x : El 2} (h : dec2 row = some x) : RowR row (encD 2 x) := by
  unfold dec2 at h
  split at h
  · rename_i a0 a1 a2 a3 a4 a5 a6 a7 a8 a9 a10 a11
    obtain ⟨x0, e0, h⟩ := oB_some.1 h
    obtain ⟨x1, e1, h⟩ := oB_some.1 h
    obtain ⟨x2, e2, h⟩ := oB_some.1 h
    obtain ⟨x3, e3, h⟩ := oB_some.1 h
    obtain ⟨x4, e4, h⟩ := oB_some.1 h
    obtain ⟨x5, e5, h⟩ := oB_some.1 h
    obtain ⟨x6, e6, h⟩ := oB_some.1 h
    obtain ⟨x7, e7, h⟩ := oB_some.1 h
    obtain ⟨x8, e8, h⟩ := oB_some.1 h
    obtain ⟨x9, e9, h⟩ := oB_some.1 h
    obtain ⟨x10, e10, h⟩ := oB_some.1 h
    obtain ⟨x11, e11, h⟩ := oB_some.1 h
    cases h
    exact .cons (fun _ _ hv => decB_VR e0 hv) (.cons (fun _ _ hv => (decI_VR e1 hv).1) (.cons (fun _ _ hv => (decI_VR e2 hv).1) (.cons (fun _ _ hv => (decI_VR e3 hv).1) (.cons (fun _ _ hv => (decI_VR e4 hv).1) (.cons (fun _ _ hv => (decI_VR e5 hv).1) (.cons (fun _ _ hv => (decI_VR e6 hv).1) (.cons (fun _ _ hv => (decI_VR e7 hv).1) (.cons (fun _ _ hv => (decI_VR e8 hv).1) (.cons (fun _ _ hv => (decI_VR e9 hv).1) (.cons (fun _ _ hv => (decI_VR e10 hv).1) (.cons (fun _ _ hv => decL_VR e11 hv) .nil)))))))))))
  · cases h
theorem dec3_ok {row : List (AV El)} {x : El 3} (h : dec3 row = some x) : RowR row (encD 3 x) := by
  unfold dec3 at h
  split at h
  · rename_i a0 a1
    obtain ⟨x0, e0, h⟩ := oB_some.1 h
    obtain ⟨x1, e1, h⟩ := oB_some.1 h
    cases h
    exact .cons (fun _ _ hv => decS_VR e0 hv) (.cons (fun _ _ hv => decS_VR e1 hv) .nil)
  · cases h
theorem dec4_ok {row : List (AV El)} {x : El 4} (h : dec4 row = some x) : RowR row (encD 4 x) := by
  unfold dec4 at h
  split at h
  · rename_i a0 a1 a2 a3 a4 a5 a6 a7 a8 a9 a10 a11 a12
    obtain ⟨x0, e0, h⟩ := oB_some.1 h
    obtain ⟨x1, e1, h⟩ := oB_some.1 h
    obtain ⟨x2, e2, h⟩ := oB_some.1 h
    obtain ⟨x3, e3, h⟩ := oB_some.1 h
    obtain ⟨x4, e4, h⟩ := oB_some.1 h
    obtain ⟨x5, e5, h⟩ := oB_some.1 h
    obtain ⟨x6, e6, h⟩ := oB_some.1 h
    obtain ⟨x7, e7, h⟩ := oB_some.1 h
    obtain ⟨x8, e8, h⟩ := oB_some.1 h
    obtain ⟨x9, e9, h⟩ := oB_some.1 h
    obtain ⟨x10, e10, h⟩ := oB_some.1 h
    obtain ⟨x11, e11, h⟩ := oB_some.1 h
    obtain ⟨x12, e12, h⟩ := oB_some.1 h
    cases h
    exact .cons (fun _ _ hv => (decI_VR e0 hv).1) (.cons (fun _ _ hv => (decI_VR e1 hv).1) (.cons (fun _ _ hv => (decI_VR e2 hv).1) (.cons (fun _ _ hv => (decI_VR e3 hv).1) (.cons (fun _ _ hv => (decI_VR e4 hv).1) (.cons (fun _ _ hv => (decI_VR e5 hv).1) (.cons (fun _ _ hv => (decI_VR e6 hv).1) (.cons (fun _ _ hv => (decI_VR e7 hv).1) (.cons (fun _ _ hv => (decI_VR e8 hv).1) (.cons (fun _ _ hv => (decI_VR e9 hv).1) (.cons (fun _ _ hv => (decI_VR e10 hv).1) (.cons (fun _ _ hv => (decI_VR e11 hv).1) (.cons (fun _ _ hv => (decI_VR e12 hv).1) .nil))))))))))))
  · cases h
theorem dec5_ok {row : List (AV El)} {x : El 5} (h : dec5 row = some x) : RowR row (encD 5 x) := by
  unfold dec5 at h
  split at h
  · rename_i a0
    obtain ⟨x0, e0, h⟩ := oB_some.1 h
    cases h
    exact .cons (fun _ _ hv => (decI_VR e0 hv).1) .nil
  · cases h
theorem dec6_ok {row : List (AV El)} {x : El 6} (h : dec6 row = some x) : RowR row (encD 6 x) := by
  unfold dec6 at h
  split at h
  · rename_i a0 a1
    obtain ⟨x0, e0, h⟩ := oB_some.1 h
    obtain ⟨x1, e1, h⟩ := oB_some.1 h
    cases h
    exact .cons (fun _ _ hv => (decI_VR e0 hv).1) (.cons (fun _ _ hv => (decI_VR e1 hv).1) .nil)
  · cases h
theorem dec7_ok {row : List (AV El)} {x : El 7} (h : dec7 row = some x) : RowR row (encD 7 x) := by
  unfold dec7 at h
  split at h
  · rename_i a0 a1 a2 a3 a4 a5 a6
    obtain ⟨x0, e0, h⟩ := oB_some.1 h
    obtain ⟨x1, e1, h⟩ := oB_some.1 h
    obtain ⟨x2, e2, h⟩ := oB_some.1 h
    obtain ⟨x3, e3, h⟩ := oB_some.1 h
    obtain ⟨x4, e4, h⟩ := oB_some.1 h
    obtain ⟨x5, e5, h⟩ := oB_some.1 h
    obtain ⟨x6, e6, h⟩ := oB_some.1 h
    cases h
    exact .cons (fun _ _ hv => (decI_VR e0 hv).1) (.cons (fun _ _ hv => decL_VR e1 hv) (.cons (fun _ _ hv => (decI_VR e2 hv).1) (.cons (fun _ _ hv => (decI_VR e3 hv).1) (.cons (fun _ _ hv => decB_VR e4 hv) (.cons (fun _ _ hv => (decI_VR e5 hv).1) (.cons (fun _ _ hv => (decI_VR e6 hv).1) .nil))))))
  · cases h
theorem dec8_ok {row : List (AV El)} {x : El 8} (h : dec8 row = some x) : RowR row (encD 8 x) := by
  unfold dec8 at h
  split at h
  · rename_i a0 a1 a2 a3
    obtain ⟨x0, e0, h⟩ := oB_some.1 h
    obtain ⟨x1, e1, h⟩ := oB_some.1 h
    obtain ⟨x2, e2, h⟩ := oB_some.1 h
    obtain ⟨x3, e3, h⟩ := oB_some.1 h
    cases h
    exact .cons (fun _ _ hv => (decI_VR e0 hv).1) (.cons (fun _ _ hv => (decI_VR e1 hv).1) (.cons (fun _ _ hv => (decI_VR e2 hv).1) (.cons (fun _ _ hv => decL_VR e3 hv) .nil)))
  · cases h
theorem dec9_ok {row : List (AV El)} {x : El 9} (h : dec9 row = some x) : RowR row (encD 9 x) := by
  unfold dec9 at h
  split at h
  · rename_i a0
    obtain ⟨x0, e0, h⟩ := oB_some.1 h
    cases h
    exact .cons (fun _ _ hv => decL_VR e0 hv) .nil
  · cases h
theorem dec10_ok {row : List (AV El)} {x : El 10} (h : dec10 row = some x) : RowR row (encD 10 x) := by
  unfold dec10 at h
  split at h
  · rename_i a0
    obtain ⟨x0, e0, h⟩ := oB_some.1 h
    cases h
    exact .cons (fun _ _ hv => decS_VR e0 hv) .nil
  · cases h
theorem dec11_ok {row : List (AV El)} {x : El 11} (h : dec11 row = some x) : RowR row (encD 11 x) := by
  unfold dec11 at h
  split at h
  · rename_i a0 a1 a2 a3 a4 a5 a6 a7 a8 a9
    obtain ⟨x0, e0, h⟩ := oB_some.1 h
    obtain ⟨x1, e1, h⟩ := oB_some.1 h
    obtain ⟨x2, e2, h⟩ := oB_some.1 h
    obtain ⟨x3, e3, h⟩ := oB_some.1 h
    obtain ⟨x4, e4, h⟩ := oB_some.1 h
    obtain ⟨x5, e5, h⟩ := oB_some.1 h
    obtain ⟨x6, e6, h⟩ := oB_some.1 h
    obtain ⟨x7, e7, h⟩ := oB_some.1 h
    obtain ⟨x8, e8, h⟩ := oB_some.1 h
    obtain ⟨x9, e9, h⟩ := oB_some.1 h
    cases h
    exact .cons (fun _ _ hv => (decI_VR e0 hv).1) (.cons (fun _ _ hv => (decI_VR e1 hv).1) (.cons (fun _ _ hv => (decI_VR e2 hv).1) (.cons (fun _ _ hv => (decI_VR e3 hv).1) (.cons (fun _ _ hv => (decI_VR e4 hv).1) (.cons (fun _ _ hv => (decI_VR e5 hv).1) (.cons (fun _ _ hv => (decI_VR e6 hv).1) (.cons (fun _ _ hv => (decI_VR e7 hv).1) (.cons (fun _ _ hv => (decI_VR e8 hv).1) (.cons (fun _ _ hv => (decI_VR e9 hv).1) .nil)))))))))
  · cases h
theorem dec12_ok {row : List (AV El)} {x : El 12} (h : dec12 row = some x) : RowR row (encD 12 x) := by
  unfold dec12 at h
  split at h
  · rename_i a0
    obtain ⟨x0, e0, h⟩ := oB_some.1 h
    cases h
    exact .cons (fun _ _ hv => decL_VR e0 hv) .nil
  · cases h
theorem allP {l : List (AV D.E)} (h : allL (fun v => one v && pure0 (D := D) v) l = true) : ∀ v ∈ l, one v = true ∧ pure0 v = true := fun v hv => by
  have := allL_iff.1 h v hv
  simpa using this
theorem D_ok : DataOk D where
  len := fun c x => by
    show (encD c x).length = szD c
    match c, x with
    | 0, x => rfl
    | 1, x => rfl
    | 2, x => rfl
    | 3, x => rfl
    | 4, x => rfl
    | 5, x => rfl
    | 6, x => rfl
    | 7, x => rfl
    | 8, x => rfl
    | 9, x => rfl
    | 10, x => rfl
    | 11, x => rfl
    | 12, x => rfl
    | _ + 13, x => rfl
  one := fun c x => by
    show ∀ v ∈ encD c x, one v = true ∧ pure0 (D := D) v = true
    match c, x with
    | 0, x => intro v hv; exact allP (l := encD 0 x) (by rfl) v hv
    | 1, x => intro v hv; exact allP (l := encD 1 x) (by rfl) v hv
    | 2, x => intro v hv; exact allP (l := encD 2 x) (by rfl) v hv
    | 3, x => intro v hv; exact allP (l := encD 3 x) (by rfl) v hv
    | 4, x => intro v hv; exact allP (l := encD 4 x) (by rfl) v hv
    | 5, x => intro v hv; exact allP (l := encD 5 x) (by rfl) v hv
    | 6, x => intro v hv; exact allP (l := encD 6 x) (by rfl) v hv
    | 7, x => intro v hv; exact allP (l := encD 7 x) (by rfl) v hv
    | 8, x => intro v hv; exact allP (l := encD 8 x) (by rfl) v hv
    | 9, x => intro v hv; exact allP (l := encD 9 x) (by rfl) v hv
    | 10, x => intro v hv; exact allP (l := encD 10 x) (by rfl) v hv
    | 11, x => intro v hv; exact allP (l := encD 11 x) (by rfl) v hv
    | 12, x => intro v hv; exact allP (l := encD 12 x) (by rfl) v hv
    | _ + 13, x => intro v hv; exact allP (l := [.int .i64 0]) (by rfl) v hv
  dec := fun c row x h => by
    have key : RowR row (encD c x) := by
      match c, x, h with
      | 0, x, h => exact dec0_ok h
      | 1, x, h => exact dec1_ok h
      | 2, x, h => exact dec2_ok h
      | 3, x, h => exact dec3_ok h
      | 4, x, h => exact dec4_ok h
      | 5, x, h => exact dec5_ok h
      | 6, x, h => exact dec6_ok h
      | 7, x, h => exact dec7_ok h
      | 8, x, h => exact dec8_ok h
      | 9, x, h => exact dec9_ok h
      | 10, x, h => exact dec10_ok h
      | 11, x, h => exact dec11_ok h
      | 12, x, h => exact dec12_ok h
      | _ + 13, x, h => cases (show none = some x from h)
    have hl : (encD c x).length = szD c := by
      match c, x with
      | 0, x => rfl
      | 1, x => rfl
      | 2, x => rfl
      | 3, x => rfl
      | 4, x => rfl
      | 5, x => rfl
      | 6, x => rfl
      | 7, x => rfl
      | 8, x => rfl
      | 9, x => rfl
      | 10, x => rfl
      | 11, x => rfl
      | 12, x => rfl
      | _ + 13, x => rfl
    exact ⟨key.1.trans hl, key.2⟩
  b1 := rfl
  bl := fun _ => rfl
  be := fun _ _ _ => rfl
  bo := fun _ => rfl
end Go.Proofs.YtacolbfofamocaaGreat.sx
/- The program's contracts: what they stand on. -/
namespace Go.Proofs.YtacolbfofamocaaGreat.sx
open Go Go.RowKit
noncomputable section
/-- codes of the types of elements -/
def cdD (t : TypeId) : Option Nat := match t with
  | 5 => some 0
  | 117 => some 1
  | 54 => some 2
  | 59 => some 3
  | 72 => some 4
  | 3 => some 5
  | 255 => some 6
  | 155 => some 7
  | 152 => some 8
  | 96 => some 9
  | 9 => some 10
  | 22 => some 12
  | _ => none
def noNG (l : List Func) : Bool := allL (fun fn => Bool.not (fn.name == "runtime.NumGoroutine" && fn.body.isSome)) l
theorem noNG_spec {P : Program} (h : noNG P.funcs.toList = true) : NoNG P := fun f fn hf => by
  have := allL_iff.1 h fn (List.mem_of_getElem? (i := f) (by rw [Array.getElem?_toList]; exact hf))
  exact Bool.not_eq_true' _ |>.mp this
theorem noCount : NoNG Tryz.prog := noNG_spec (by kernel_rfl)
theorem mixed : Tryz.prog.follows .mixedOrders = true := by kernel_rfl
def bodyOf (f : Func) : Code := match f.body with
  | some c => c
  | none => .skip
abbrev Tab := List (Con D)
/-- the condition of a function -/
def vcOf (tab : Tab) (fn : Func) (k : Con D) (orc : k.Y → Orc D) (y : k.Y) : Prop := bodyW Tryz.prog D cdD (caT D tab) (orc y) fn.ntmps k (bodyOf fn) fn.results.toList y
abbrev Ok (k : Con D) : Prop := ConOk Tryz.prog D k
theorem okOf {k : Con D} {fn : Func} {tab : Tab} (ht : ∀ k ∈ tab, Ok k) (hfn : Tryz.prog.funcs[k.f]? = some fn) (hc : fn.body = some (bodyOf fn)) (orc : k.Y → Orc D) (hN : ∀ y, (k.args y).length ≤ fn.ntmps) (hb : ∀ y, k.pre y → vcOf tab fn k orc y) : Ok k :=
  conOk D_ok mixed noCount hfn hc (caT_ok D_ok ht) orc hN hb
theorem okRec {k : Con D} {fn : Func} (me : k.Y → Nat) {tab : Tab} (ht : ∀ k ∈ tab, Ok k) (hfn : Tryz.prog.funcs[k.f]? = some fn) (hc : fn.body = some (bodyOf fn)) (orc : k.Y → Orc D) (hN : ∀ y, (k.args y).length ≤ fn.ntmps)
    (hb : ∀ y, k.pre y → vcOf (k.under me (me y) :: tab) fn k orc y) : Ok k := conOk_rec D_ok mixed noCount hfn hc me ht orc hN hb
abbrev By := List UInt8
/-- rows of a printed condition that say nothing -/
def Rfs {α : Type} (l : List α) (p : Prop) : Prop := List.rec (motive := fun _ => Prop) p (fun a _ ih => a = a ∧ ih) l
@[simp] theorem Rfs_eq {α : Type} (l : List α) (p : Prop) : Rfs l p = p := by
  induction l with
  | nil => rfl
  | cons a l ih =>
    show (a = a ∧ Rfs l p) = p
    rw [ih]; simp
def dT0 : Thread := ⟨0, 0, 0, 0, 0, 0, 0, 0, 0, 0, 0⟩
def dL0 : Lst := ⟨false, 0, 0, 0, 0, 0, 0, 0, 0, 0, 0, []⟩
def gN {α : Type} (d : α) (l : List α) (x : Nat) : α := gt d l (Int.toNat (x : Int))
@[simp] theorem gN_eq {α : Type} (d : α) (l : List α) (x : Nat) : gN d l x = gt d l x := rfl
def noO {α : Type} (_ : α) : Orc D := ⟨[], [], [], [], 1, []⟩
/-- a row's and a number's contract reads its arguments so -/
def inBI (args : List (AV D.E)) (s : St D.E) : C (By × Int) := match args with
  | [a, b] => bnd (rowsOf D s 0 a) fun l => bnd2 (asI b) fun _ r => .ret ((l : By), r)
  | _ => .fail
end
end Go.Proofs.YtacolbfofamocaaGreat.sx
/- Laws of the open words. -/
namespace Go.Proofs.YtacolbfofamocaaGreat.sx
open Go Go.RowKit
theorem ile_t {a b : Int} : ile a b = true ↔ a ≤ b := by simp [ile]
theorem ile_f {a b : Int} : ile a b = false ↔ b < a := by simp [ile]
theorem ilt_t {a b : Int} : ilt a b = true ↔ a < b := by simp [ilt]
theorem ilt_f {a b : Int} : ilt a b = false ↔ b ≤ a := by simp [ilt]
theorem ieq_t {a b : Int} : ieq a b = true ↔ a = b := by simp [ieq]
theorem ieq_f {a b : Int} : ieq a b = false ↔ a ≠ b := by simp [ieq]
theorem seq_t {a b : By} : seq a b = true ↔ a = b := by simp [seq]
theorem fits_t {n : Int} {b : Nat} : fits n b = true ↔ n * b ≤ 140737488355328 := by simp [fits]
theorem inR64 {n : Int} : inR .i64 n = true ↔ -9223372036854775808 ≤ n ∧ n ≤ 9223372036854775807 := by rw [inR_iff]; simp only [kMn, kMx]
theorem inRu64 {n : Int} : inR .u64 n = true ↔ 0 ≤ n ∧ n ≤ 18446744073709551615 := by rw [inR_iff]; simp only [kMn, kMx]
theorem iadd64 {a b : Int} (h1 : -9223372036854775808 ≤ a + b) (h2 : a + b ≤ 9223372036854775807) : iadd .i64 a b = a + b := inR_wrap (inR64.2 ⟨h1, h2⟩)
theorem isub64 {a b : Int} (h1 : -9223372036854775808 ≤ a - b) (h2 : a - b ≤ 9223372036854775807) : isub .i64 a b = a - b := inR_wrap (inR64.2 ⟨h1, h2⟩)
theorem icvU {a : Int} (h1 : 0 ≤ a) (h2 : a ≤ 18446744073709551615) : icv .u64 a = a := inR_wrap (inRu64.2 ⟨h1, h2⟩)
theorem imulU {a b : Int} (h1 : 0 ≤ a * b) (h2 : a * b ≤ 18446744073709551615) : imul .u64 a b = a * b := inR_wrap (inRu64.2 ⟨h1, h2⟩)
theorem llen_eq {α : Type} (l : List α) : llen l = (l.length : Int) := rfl
theorem lcat_eq {α : Type} (a b : List α) : lcat a b = a ++ b := rfl
theorem imax_eq (a b : Int) : imax a b = max a b := by unfold imax; split <;> omega
theorem imax0 (n : Int) : imax n 0 = (n.toNat : Int) := by unfold imax; split <;> omega
/-- a byte of a number -/
theorem ishrU {u j : Nat} (_hu : u < 18446744073709551616) (hj : j ≤ 8) : ishr .u64 (u : Int) (imul .u64 8 (icv .u64 (j : Int))) = ((u / 256 ^ j : Nat) : Int) := by
  rw [icvU (by omega) (by omega), imulU (by omega) (by omega)]
  unfold ishr
  have e : ((8 : Int) * (j : Int)).toNat = 8 * j := by omega
  rw [e, Nat.min_eq_left (by show 8 * j ≤ 64; omega), show (256 : Nat) ^ j = 2 ^ (8 * j) by rw [Nat.pow_mul]]
  simp
theorem imul64 {a b : Int} (h1 : -9223372036854775808 ≤ a * b) (h2 : a * b ≤ 9223372036854775807) : imul .i64 a b = a * b := inR_wrap (inR64.2 ⟨h1, h2⟩)
theorem ishr64 {u j : Nat} (hj : j ≤ 8) : ishr .i64 (u : Int) (8 * (j : Int)) = ((u / 256 ^ j : Nat) : Int) := by
  unfold ishr
  have e : ((8 : Int) * (j : Int)).toNat = 8 * j := by omega
  rw [e, Nat.min_eq_left (by show 8 * j ≤ 64; omega), show (256 : Nat) ^ j = 2 ^ (8 * j) by rw [Nat.pow_mul]]
  simp
theorem slen_eq (s : By) : slen s = (s.length : Int) := rfl
theorem b8U {u : Nat} : b8 (icv .u8 (u : Int)) = UInt8.ofNat u := by
  unfold b8 icv
  apply UInt8.toNat_inj.1
  rw [UInt8.toNat_ofNat', UInt8.toNat_ofNat']
  simp only [IntKind.wrap, IntKind.bits, IntKind.signed]
  simp
  omega
end Go.Proofs.YtacolbfofamocaaGreat.sx
/- Contracts of the numbers' bytes: wire.more, wire.Num, the document's Num. -/
namespace Go.Proofs.YtacolbfofamocaaGreat.sx
open Go Go.RowKit
noncomputable section
/-- how many bytes a number has -/
def nb (u : Nat) : Nat := if h : u = 0 then 0 else nb (u / 256) + 1
/-- a number's bytes from place k (not in) down to place j -/
def dn (u j k : Nat) : By := ((List.range' j (k - j)).reverse).map fun i => UInt8.ofNat (u / 256 ^ i)
def numP (b : By) (u j : Nat) : By := b ++ (UInt8.ofNat (nb u) :: dn u j (nb u))
/-- (no number of Go's is greater) -/
def numF (b : By) (n : Int) : By := numP b (min n.toNat 9223372036854775807) 0
def uOf (n : Int) : Int := (n.toNat : Int)
def moreC : Con D where
  f := 50
  Y := By × Int
  inp := inBI
  pre := fun y => y.1.length ≤ 1073741824 ∧ 0 ≤ y.2 ∧ y.2 ≤ 1073741824
  args := fun y => [.list 0 y.1, .int .i64 y.2]
  heap := fun _ => []
  res := fun y => .grow 0 y.1 0
  heap' := fun _ => [(0, .tok 0 5)]
  nx0 := 0
  nx1 := 1
def moreO (_ : moreC.Y) : Orc D := ⟨[], [], [], [], 1, []⟩
def moreV (y : moreC.Y) : Prop := vcOf [] Tryz.f50 moreC moreO y
def numC : Con D where
  f := 24
  Y := By × Int
  inp := inBI
  pre := fun y => y.1.length ≤ 1073741824
  args := fun y => [.list 0 y.1, .int .i64 y.2]
  heap := fun _ => []
  res := fun y => .grow 0 (numF y.1 y.2) 0
  heap' := fun _ => [(0, .tok 0 5)]
  nx0 := 0
  nx1 := 1
def numO (y : numC.Y) : Orc D := ⟨[(0, .fact 1)], [],
  [(124, { X := Nat, keep := [5, 6], sl := fun k => [(7, .int .i64 k)], kp := [0], pc := fun _ => [], nx := 1, inv := fun k => k ≤ nb y.2.toNat, me := fun k => 8 - k }),
   (1018, { X := Nat, keep := [6], sl := fun x => [(5, .grow 0 (numP y.1 y.2.toNat x) 0), (8, .int .i64 ((x : Int) - 1))], kp := [], pc := fun _ => [(0, .tok 0 5)], nx := 1, inv := fun x => x ≤ nb y.2.toNat, me := fun x => x })],
  [(31, { X := Unit, keep := [5, 6], sl := fun _ => [(7, .int .i64 (nb y.2.toNat))], kp := [0], pc := fun _ => [], nx := 1, inv := fun _ => True, me := fun _ => 0 })], 1, []⟩
def numV (y : numC.Y) : Prop := vcOf [moreC] Tryz.f24 numC numO y
def rnumC : Con D where
  f := 28
  Y := By × Int
  inp := inBI
  pre := fun y => y.1.length ≤ 1073741824
  args := fun y => [.list 0 y.1, .int .i64 y.2]
  heap := fun _ => []
  res := fun y => .grow 0 (numF y.1 y.2) 0
  heap' := fun _ => [(0, .tok 0 5)]
  nx0 := 0
  nx1 := 1
def rnumO (y : rnumC.Y) : Orc D := ⟨[(0, .fact 1)], [],
  [(250, { X := Nat, keep := [1, 5], sl := fun k => [(6, .int .i64 k), (7, .int .i64 ((y.2.toNat / 256 ^ k : Nat) : Int))], kp := [1], pc := fun _ => [], nx := 2, inv := fun k => k ≤ nb y.2.toNat, me := fun k => nb y.2.toNat - k }),
   (1018, { X := Nat, keep := [1], sl := fun x => [(5, .grow 0 (numP y.1 y.2.toNat x) 0), (8, .int .i64 ((x : Int) - 1))], kp := [], pc := fun _ => [(0, .tok 0 5)], nx := 1, inv := fun x => x ≤ nb y.2.toNat, me := fun x => x })],
  [(7, { X := Unit, keep := [5], sl := fun _ => [(1, .int .i64 (uOf y.2))], kp := [1], pc := fun _ => [], nx := 2, inv := fun _ => True, me := fun _ => 0 })], 1, []⟩
def rnumV (y : rnumC.Y) : Prop := vcOf [] Tryz.f28 rnumC rnumO y
def inBb (args : List (AV D.E)) (s : St D.E) : C (By × Bool) := match args with
  | [a, b] => bnd (rowsOf D s 0 a) fun l => bnd2 (asT b) fun r _ => .ret ((l : By), r)
  | _ => .fail
def inBS (args : List (AV D.E)) (s : St D.E) : C (By × By) := match args with
  | [a, b] => bnd (rowsOf D s 0 a) fun l => bnd (asStr b) fun r => .ret ((l : By), r)
  | _ => .fail
def flagF (b : By) (f : Bool) : By := numF b (if f = true then 1 else 0)
def textF (b s : By) : By := numF b s.length ++ s
def flagC : Con D where
  f := 23
  Y := By × Bool
  inp := inBb
  pre := fun y => y.1.length ≤ 1073741824
  args := fun y => [.list 0 y.1, .bool y.2]
  heap := fun _ => []
  res := fun y => .grow 0 (flagF y.1 y.2) 0
  heap' := fun _ => [(0, .tok 0 5)]
  nx0 := 0
  nx1 := 1
def flagO (_ : flagC.Y) : Orc D := ⟨[], [], [], [], 1, []⟩
def flagV (y : flagC.Y) : Prop := vcOf [numC] Tryz.f23 flagC flagO y
def rflagC : Con D := { flagC with f := 27 }
def rflagO (_ : rflagC.Y) : Orc D := ⟨[], [], [], [], 1, []⟩
def rflagV (y : rflagC.Y) : Prop := vcOf [rnumC] Tryz.f27 rflagC rflagO y
def textC : Con D where
  f := 56
  Y := By × By
  inp := inBS
  pre := fun y => y.1.length ≤ 536870912 ∧ y.2.length ≤ 536870912
  args := fun y => [.list 0 y.1, .str y.2]
  heap := fun _ => []
  res := fun y => .grow 0 (textF y.1 y.2) 0
  heap' := fun _ => [(0, .tok 0 5)]
  nx0 := 0
  nx1 := 1
def textO (_ : textC.Y) : Orc D := ⟨[], [], [], [], 1, []⟩
def textV (y : textC.Y) : Prop := vcOf [moreC, numC] Tryz.f56 textC textO y
def rtextC : Con D := { textC with f := 58 }
def rtextO (_ : rtextC.Y) : Orc D := ⟨[], [], [], [], 1, []⟩
def rtextV (y : rtextC.Y) : Prop := vcOf [rnumC] Tryz.f58 rtextC rtextO y
end
end Go.Proofs.YtacolbfofamocaaGreat.sx
/- Conditions, as a tool printed them; that they are the functions' own the kernel computes. -/
namespace Go.Proofs.YtacolbfofamocaaGreat.sx
open Go Go.RowKit
def moreVC (y : Prod (List UInt8) Int) : Prop :=
 ((ile (0 : Int) (0 : Int)) = true) ∧
 ((ile (0 : Int) (iadd IntKind.i64 (llen y.1) y.2)) = true) ∧
 ((fits (iadd IntKind.i64 (llen y.1) y.2) 1) = true) ∧
 ((fits (llen (lcat ([] : List UInt8) y.1)) 1) = true) ∧
 (@Eq (List UInt8) (lcat ([] : List UInt8) y.1) y.1) ∧
 True
theorem moreV_eq : ∀ y, moreVC y = moreV y := fun y => by kernel_rfl
def numVC (y : Prod (List UInt8) Int) : Prop :=
 ((inR IntKind.i64 y.2) = true) →
  (Iv (((List.length y.1 : Nat) ≤ 1073741824) ∧ (((0 : Int) : Int) ≤ (9 : Int)) ∧ ((9 : Int) : Int) ≤ (1073741824 : Int))) ∧
  (@Eq (List UInt8) y.1 y.1) ∧
  (@Eq Int (9 : Int) (9 : Int)) ∧
  (
   (
    ∃ z : Nat,
     (@Eq (List UInt8) y.1 y.1) ∧
     (@Eq Int (icv IntKind.u64 (imax y.2 (0 : Int))) (icv IntKind.u64 (imax y.2 (0 : Int)))) ∧
     (@Eq Int (0 : Int) ((z : Nat) : Int)) ∧
     (Iv ((z : Nat) ≤ (nb (Int.toNat y.2))))) ∧
   (
    ∀ x : Nat,
     (Iv ((x : Nat) ≤ (nb (Int.toNat y.2)))) →
      (
       ((ilt ((x : Nat) : Int) (8 : Int)) = true) →
        ((ile (0 : Int) (imul IntKind.u64 (8 : Int) (icv IntKind.u64 ((x : Nat) : Int)))) = true) ∧
        ((ile (0 : Int) (icv IntKind.u64 (imax y.2 (0 : Int)))) = true) ∧
        (
         ((ilt (0 : Int) (ishr IntKind.u64 (icv IntKind.u64 (imax y.2 (0 : Int))) (imul IntKind.u64 (8 : Int) (icv IntKind.u64 ((x : Nat) : Int))))) = true) →
          ∃ z : Nat,
           (@Eq (List UInt8) y.1 y.1) ∧
           (@Eq Int (icv IntKind.u64 (imax y.2 (0 : Int))) (icv IntKind.u64 (imax y.2 (0 : Int)))) ∧
           (@Eq Int (iadd IntKind.i64 ((x : Nat) : Int) (1 : Int)) ((z : Nat) : Int)) ∧
           (Iv (((z : Nat) ≤ (nb (Int.toNat y.2))) ∧ ((8 : Nat) - z : Nat) < ((8 : Nat) - x)))) ∧
        (
         ((ilt (0 : Int) (ishr IntKind.u64 (icv IntKind.u64 (imax y.2 (0 : Int))) (imul IntKind.u64 (8 : Int) (icv IntKind.u64 ((x : Nat) : Int))))) = false) →
          ∃ _z : Unit,
           (@Eq (List UInt8) y.1 y.1) ∧
           (@Eq Int (icv IntKind.u64 (imax y.2 (0 : Int))) (icv IntKind.u64 (imax y.2 (0 : Int)))) ∧
           (@Eq Int ((x : Nat) : Int) ((nb (Int.toNat y.2) : Nat) : Int)) ∧
           (Iv True))) ∧
      (
       ((ilt ((x : Nat) : Int) (8 : Int)) = false) →
        ∃ _z : Unit,
         (@Eq (List UInt8) y.1 y.1) ∧
         (@Eq Int (icv IntKind.u64 (imax y.2 (0 : Int))) (icv IntKind.u64 (imax y.2 (0 : Int)))) ∧
         (@Eq Int ((x : Nat) : Int) ((nb (Int.toNat y.2) : Nat) : Int)) ∧
         (Iv True)))) ∧
  (
   ∀ _x : Unit,
    (Iv True) →
     ((fits (llen (lcat y.1 ((b8 (icv IntKind.u8 ((nb (Int.toNat y.2) : Nat) : Int))) :: ([] : List UInt8)))) 1) = true) ∧
     (
      ∃ z : Nat,
       (@Eq Int (icv IntKind.u64 (imax y.2 (0 : Int))) (icv IntKind.u64 (imax y.2 (0 : Int)))) ∧
       (@Eq (List UInt8) (lcat y.1 ((b8 (icv IntKind.u8 ((nb (Int.toNat y.2) : Nat) : Int))) :: ([] : List UInt8))) (numP y.1 (Int.toNat y.2) z)) ∧
       (@Eq Int (isub IntKind.i64 ((nb (Int.toNat y.2) : Nat) : Int) (1 : Int)) ((((z : Nat) : Int) : Int) - (1 : Int))) ∧
       (Iv ((z : Nat) ≤ (nb (Int.toNat y.2))))) ∧
     (
      ∀ x1 : Nat,
       (Iv ((x1 : Nat) ≤ (nb (Int.toNat y.2)))) →
        (
         ((ile (0 : Int) ((((x1 : Nat) : Int) : Int) - (1 : Int))) = true) →
          ((ile (0 : Int) (imul IntKind.u64 (8 : Int) (icv IntKind.u64 ((((x1 : Nat) : Int) : Int) - (1 : Int))))) = true) ∧
          ((ile (0 : Int) (icv IntKind.u64 (imax y.2 (0 : Int)))) = true) ∧
          ((fits (llen (lcat (numP y.1 (Int.toNat y.2) x1) ((b8 (icv IntKind.u8 (ishr IntKind.u64 (icv IntKind.u64 (imax y.2 (0 : Int))) (imul IntKind.u64 (8 : Int) (icv IntKind.u64 ((((x1 : Nat) : Int) : Int) - (1 : Int))))))) :: ([] : List UInt8)))) 1) = true) ∧
          ∃ z : Nat,
           (@Eq Int (icv IntKind.u64 (imax y.2 (0 : Int))) (icv IntKind.u64 (imax y.2 (0 : Int)))) ∧
           (@Eq (List UInt8) (lcat (numP y.1 (Int.toNat y.2) x1) ((b8 (icv IntKind.u8 (ishr IntKind.u64 (icv IntKind.u64 (imax y.2 (0 : Int))) (imul IntKind.u64 (8 : Int) (icv IntKind.u64 ((((x1 : Nat) : Int) : Int) - (1 : Int))))))) :: ([] : List UInt8))) (numP y.1 (Int.toNat y.2) z)) ∧
           (@Eq Int (isub IntKind.i64 ((((x1 : Nat) : Int) : Int) - (1 : Int)) (1 : Int)) ((((z : Nat) : Int) : Int) - (1 : Int))) ∧
           (Iv (((z : Nat) ≤ (nb (Int.toNat y.2))) ∧ (z : Nat) < x1))) ∧
        (
         ((ile (0 : Int) ((((x1 : Nat) : Int) : Int) - (1 : Int))) = false) →
          (@Eq (List UInt8) (numP y.1 (Int.toNat y.2) x1) (numF y.1 y.2)) ∧
          True)))
theorem numV_eq : ∀ y, numVC y = numV y := fun y => by kernel_rfl
def rnumVC (y : Prod (List UInt8) Int) : Prop :=
 ((inR IntKind.i64 y.2) = true) →
  ((fits (llen (lcat ([] : List UInt8) y.1)) 1) = true) ∧
  (
   (
    ((ilt y.2 (0 : Int)) = true) →
     ∃ _z : Unit,
      (@Eq (List UInt8) (lcat ([] : List UInt8) y.1) (lcat ([] : List UInt8) y.1)) ∧
      (@Eq Int (0 : Int) (uOf y.2)) ∧
      (Iv True)) ∧
   (
    ((ilt y.2 (0 : Int)) = false) →
     ∃ _z : Unit,
      (@Eq (List UInt8) (lcat ([] : List UInt8) y.1) (lcat ([] : List UInt8) y.1)) ∧
      (@Eq Int y.2 (uOf y.2)) ∧
      (Iv True))) ∧
  (
   ∀ _x : Unit,
    (Iv True) →
     (
      ∃ z : Nat,
       (@Eq Int (uOf y.2) (uOf y.2)) ∧
       (@Eq (List UInt8) (lcat ([] : List UInt8) y.1) (lcat ([] : List UInt8) y.1)) ∧
       (@Eq Int (0 : Int) ((z : Nat) : Int)) ∧
       (@Eq Int (uOf y.2) (((Int.toNat y.2 : Nat) / ((256 : Nat) ^ z) : Nat) : Int)) ∧
       (Iv ((z : Nat) ≤ (nb (Int.toNat y.2))))) ∧
     (
      ∀ x1 : Nat,
       (Iv ((x1 : Nat) ≤ (nb (Int.toNat y.2)))) →
        (
         ((ilt (0 : Int) (((Int.toNat y.2 : Nat) / ((256 : Nat) ^ x1) : Nat) : Int)) = true) →
          ((ile (0 : Int) (8 : Int)) = true) ∧
          ((ile (0 : Int) (((Int.toNat y.2 : Nat) / ((256 : Nat) ^ x1) : Nat) : Int)) = true) ∧
          ∃ z : Nat,
           (@Eq Int (uOf y.2) (uOf y.2)) ∧
           (@Eq (List UInt8) (lcat ([] : List UInt8) y.1) (lcat ([] : List UInt8) y.1)) ∧
           (@Eq Int (iadd IntKind.i64 ((x1 : Nat) : Int) (1 : Int)) ((z : Nat) : Int)) ∧
           (@Eq Int (ishr IntKind.i64 (((Int.toNat y.2 : Nat) / ((256 : Nat) ^ x1) : Nat) : Int) (8 : Int)) (((Int.toNat y.2 : Nat) / ((256 : Nat) ^ z) : Nat) : Int)) ∧
           (Iv (((z : Nat) ≤ (nb (Int.toNat y.2))) ∧ ((nb (Int.toNat y.2) : Nat) - z : Nat) < ((nb (Int.toNat y.2) : Nat) - x1)))) ∧
        (
         ((ilt (0 : Int) (((Int.toNat y.2 : Nat) / ((256 : Nat) ^ x1) : Nat) : Int)) = false) →
          ((fits (llen (lcat (lcat ([] : List UInt8) y.1) ((b8 (icv IntKind.u8 ((x1 : Nat) : Int))) :: ([] : List UInt8)))) 1) = true) ∧
          (
           ∃ z : Nat,
            (@Eq Int (uOf y.2) (uOf y.2)) ∧
            (@Eq (List UInt8) (lcat (lcat ([] : List UInt8) y.1) ((b8 (icv IntKind.u8 ((x1 : Nat) : Int))) :: ([] : List UInt8))) (numP y.1 (Int.toNat y.2) z)) ∧
            (@Eq Int (isub IntKind.i64 ((x1 : Nat) : Int) (1 : Int)) ((((z : Nat) : Int) : Int) - (1 : Int))) ∧
            (Iv ((z : Nat) ≤ (nb (Int.toNat y.2))))) ∧
          (
           ∀ x2 : Nat,
            (Iv ((x2 : Nat) ≤ (nb (Int.toNat y.2)))) →
             (
              ((ile (0 : Int) ((((x2 : Nat) : Int) : Int) - (1 : Int))) = true) →
               ((ile (0 : Int) (imul IntKind.i64 (8 : Int) ((((x2 : Nat) : Int) : Int) - (1 : Int)))) = true) ∧
               ((ile (0 : Int) (uOf y.2)) = true) ∧
               ((fits (llen (lcat (numP y.1 (Int.toNat y.2) x2) ((b8 (icv IntKind.u8 (ishr IntKind.i64 (uOf y.2) (imul IntKind.i64 (8 : Int) ((((x2 : Nat) : Int) : Int) - (1 : Int)))))) :: ([] : List UInt8)))) 1) = true) ∧
               ∃ z : Nat,
                (@Eq Int (uOf y.2) (uOf y.2)) ∧
                (@Eq (List UInt8) (lcat (numP y.1 (Int.toNat y.2) x2) ((b8 (icv IntKind.u8 (ishr IntKind.i64 (uOf y.2) (imul IntKind.i64 (8 : Int) ((((x2 : Nat) : Int) : Int) - (1 : Int)))))) :: ([] : List UInt8))) (numP y.1 (Int.toNat y.2) z)) ∧
                (@Eq Int (isub IntKind.i64 ((((x2 : Nat) : Int) : Int) - (1 : Int)) (1 : Int)) ((((z : Nat) : Int) : Int) - (1 : Int))) ∧
                (Iv (((z : Nat) ≤ (nb (Int.toNat y.2))) ∧ (z : Nat) < x2))) ∧
             (
              ((ile (0 : Int) ((((x2 : Nat) : Int) : Int) - (1 : Int))) = false) →
               (@Eq (List UInt8) (numP y.1 (Int.toNat y.2) x2) (numF y.1 y.2)) ∧
               True)))))
theorem rnumV_eq : ∀ y, rnumVC y = rnumV y := fun y => by kernel_rfl
def flagVC (y : Prod (List UInt8) Bool) : Prop :=
 (
  (y.2 = true) →
   (Iv ((List.length y.1 : Nat) ≤ 1073741824)) ∧
   (@Eq (List UInt8) y.1 y.1) ∧
   (@Eq Int (1 : Int) (1 : Int)) ∧
   (@Eq (List UInt8) (numF y.1 (1 : Int)) (flagF y.1 y.2)) ∧
   True) ∧
 (
  (y.2 = false) →
   (Iv ((List.length y.1 : Nat) ≤ 1073741824)) ∧
   (@Eq (List UInt8) y.1 y.1) ∧
   (@Eq Int (0 : Int) (0 : Int)) ∧
   (@Eq (List UInt8) (numF y.1 (0 : Int)) (flagF y.1 y.2)) ∧
   True)
theorem flagV_eq : ∀ y, flagVC y = flagV y := fun y => by kernel_rfl
def rflagVC (y : Prod (List UInt8) Bool) : Prop :=
 (
  (y.2 = true) →
   (Iv ((List.length y.1 : Nat) ≤ 1073741824)) ∧
   (@Eq (List UInt8) y.1 y.1) ∧
   (@Eq Int (1 : Int) (1 : Int)) ∧
   (@Eq (List UInt8) (numF y.1 (1 : Int)) (flagF y.1 y.2)) ∧
   True) ∧
 (
  (y.2 = false) →
   (Iv ((List.length y.1 : Nat) ≤ 1073741824)) ∧
   (@Eq (List UInt8) y.1 y.1) ∧
   (@Eq Int (0 : Int) (0 : Int)) ∧
   (@Eq (List UInt8) (numF y.1 (0 : Int)) (flagF y.1 y.2)) ∧
   True)
theorem rflagV_eq : ∀ y, rflagVC y = rflagV y := fun y => by kernel_rfl
def textVC (y : Prod (List UInt8) (List UInt8)) : Prop :=
 (Iv (((List.length y.1 : Nat) ≤ 1073741824) ∧ (((0 : Int) : Int) ≤ (iadd IntKind.i64 (9 : Int) (slen y.2))) ∧ (iadd IntKind.i64 (9 : Int) (slen y.2) : Int) ≤ (1073741824 : Int))) ∧
 (@Eq (List UInt8) y.1 y.1) ∧
 (@Eq Int (iadd IntKind.i64 (9 : Int) (slen y.2)) (iadd IntKind.i64 (9 : Int) (slen y.2))) ∧
 (Iv ((List.length y.1 : Nat) ≤ 1073741824)) ∧
 (@Eq (List UInt8) y.1 y.1) ∧
 (@Eq Int (slen y.2) (slen y.2)) ∧
 ((fits (llen (lcat (numF y.1 (slen y.2)) y.2)) 1) = true) ∧
 (@Eq (List UInt8) (lcat (numF y.1 (slen y.2)) y.2) (textF y.1 y.2)) ∧
 True
theorem textV_eq : ∀ y, textVC y = textV y := fun y => by kernel_rfl
def rtextVC (y : Prod (List UInt8) (List UInt8)) : Prop :=
 (Iv ((List.length y.1 : Nat) ≤ 1073741824)) ∧
 (@Eq (List UInt8) y.1 y.1) ∧
 (@Eq Int (slen y.2) (slen y.2)) ∧
 ((fits (llen (lcat (numF y.1 (slen y.2)) y.2)) 1) = true) ∧
 (@Eq (List UInt8) (lcat (numF y.1 (slen y.2)) y.2) (textF y.1 y.2)) ∧
 True
theorem rtextV_eq : ∀ y, rtextVC y = rtextV y := fun y => by kernel_rfl
end Go.Proofs.YtacolbfofamocaaGreat.sx
/- The numbers' bytes: the contracts hold. -/
namespace Go.Proofs.YtacolbfofamocaaGreat.sx
open Go Go.RowKit
set_option maxRecDepth 100000
theorem nb_zero : nb 0 = 0 := by rw [nb]; rfl
theorem nb_pos {u : Nat} (h : u ≠ 0) : nb u = nb (u / 256) + 1 := by rw [nb, dif_neg h]
theorem nb_lt : ∀ (x u : Nat), x < nb u ↔ 0 < u / 256 ^ x
  | 0, u => by
    rw [Nat.pow_zero, Nat.div_one]
    by_cases h : u = 0
    · subst h; rw [nb_zero]
    · rw [nb_pos h]; omega
  | x + 1, u => by
    by_cases h : u = 0
    · subst h; rw [nb_zero]; simp
    · rw [nb_pos h, Nat.pow_succ, Nat.mul_comm, ← Nat.div_div_eq_div_mul, ← nb_lt x (u / 256)]; omega
theorem nb_le {u : Nat} (h : u < 18446744073709551616) : nb u ≤ 8 := by
  refine Nat.le_of_not_lt fun hlt => ?_
  have := (nb_lt 8 u).1 hlt
  have : u / 256 ^ 8 = 0 := Nat.div_eq_of_lt (by omega)
  omega
theorem dn_step {u j k : Nat} (h : j < k) : dn u j k = dn u (j + 1) k ++ [UInt8.ofNat (u / 256 ^ j)] := by
  unfold dn
  rw [show k - j = (k - (j + 1)) + 1 by omega, List.range'_succ]
  simp
theorem dn_none (u k : Nat) : dn u k k = [] := by unfold dn; simp
theorem dn_len (u j k : Nat) : (dn u j k).length = k - j := by unfold dn; simp
theorem numP_len (b : By) (u j : Nat) : (numP b u j).length = b.length + 1 + (nb u - j) := by unfold numP; simp [dn_len]; omega
theorem moreH (y : By × Int) (hy : moreC.pre y) : moreVC y := by
  obtain ⟨h1, h2, h3⟩ : y.1.length ≤ 1073741824 ∧ 0 ≤ y.2 ∧ y.2 ≤ 1073741824 := hy
  have e : iadd IntKind.i64 (llen y.1) y.2 = (y.1.length : Int) + y.2 := iadd64 (by rw [llen_eq]; omega) (by rw [llen_eq]; omega)
  refine ⟨rfl, ?_, ?_, ?_, ?_, trivial⟩
  · rw [e, ile_t]; omega
  · rw [e, fits_t]; omega
  · rw [lcat_eq, llen_eq, fits_t]; simp; omega
  · rw [lcat_eq]; rfl
theorem moreOk : Ok moreC := okOf (tab := []) (fn := Tryz.f50) (orc := moreO) (by simp) (by kernel_rfl) (by kernel_rfl) (fun _ => by exact Nat.le_of_ble_eq_true (by kernel_rfl)) fun y hy => Eq.mp (moreV_eq y) (moreH y hy)
theorem numH (y : By × Int) (hy : numC.pre y) : numVC y := by
  have h1 : y.1.length ≤ 1073741824 := hy
  intro hin
  rw [inR64] at hin
  have hu : y.2.toNat < 9223372036854775808 := by omega
  have hU : icv IntKind.u64 (imax y.2 (0 : Int)) = (y.2.toNat : Int) := by rw [imax0]; exact icvU (by omega) (by omega)
  have hk := nb_le (u := y.2.toNat) (by omega)
  refine ⟨⟨h1, by omega, by omega⟩, rfl, rfl, ⟨⟨0, rfl, rfl, rfl, ⟨Nat.zero_le _⟩⟩, fun x hx => ?_⟩, fun _ _ => ⟨?_, ⟨nb y.2.toNat, rfl, ?_, ?_, ⟨Nat.le_refl _⟩⟩, fun x hx => ?_⟩⟩
  · have hx := hx.out
    refine ⟨fun h2 => ⟨?_, ?_, fun h3 => ⟨x + 1, rfl, rfl, ?_, ⟨?_, ?_⟩⟩, fun h3 => ⟨(), rfl, rfl, ?_, ⟨trivial⟩⟩⟩, fun h2 => ⟨(), rfl, rfl, ?_, ⟨trivial⟩⟩⟩
    · rw [icvU (by omega) (by omega), imulU (by omega) (by omega), ile_t]; omega
    · rw [hU, ile_t]; omega
    · rw [iadd64 (by omega) (by omega)]; rfl
    · rw [hU, ishrU (by omega) (by omega), ilt_t] at h3
      have := (nb_lt x y.2.toNat).2 (by omega)
      omega
    · rw [ilt_t] at h2; omega
    · rw [hU, ishrU (by omega) (by omega), ilt_f] at h3
      have : ¬ x < nb y.2.toNat := fun hlt => by
        have := (nb_lt x y.2.toNat).1 hlt
        omega
      show (x : Int) = (nb y.2.toNat : Int)
      omega
    · rw [ilt_f] at h2
      show (x : Int) = (nb y.2.toNat : Int)
      omega
  · rw [lcat_eq, llen_eq, fits_t]; simp; omega
  · rw [lcat_eq, b8U]
    unfold numP
    rw [dn_none]
  · rw [isub64 (by omega) (by omega)]
  · have hx := hx.out
    refine ⟨fun h2 => ?_, fun h2 => ⟨?_, trivial⟩⟩
    · rw [ile_t] at h2
      have ex : ((x : Int) - 1) = ((x - 1 : Nat) : Int) := by omega
      refine ⟨?_, ?_, ?_, x - 1, rfl, ?_, ?_, ⟨?_, ?_⟩⟩
      · rw [icvU (by omega) (by omega), imulU (by omega) (by omega), ile_t]; omega
      · rw [hU, ile_t]; omega
      · rw [lcat_eq, llen_eq, fits_t]; simp [numP_len]; omega
      · rw [hU, ex, ishrU (by omega) (by omega), b8U, lcat_eq]
        unfold numP
        have := dn_step (u := y.2.toNat) (j := x - 1) (k := nb y.2.toNat) (by omega)
        rw [show x - 1 + 1 = x by omega] at this
        rw [this]
        simp
      · rw [ex, isub64 (by omega) (by omega)]
      · omega
      · omega
    · rw [ile_f] at h2
      have : x = 0 := by omega
      subst this
      show numP y.1 y.2.toNat 0 = numP y.1 (min y.2.toNat 9223372036854775807) 0
      rw [Nat.min_eq_left (by omega)]
theorem numOk : Ok numC := okOf (tab := [moreC]) (fn := Tryz.f24) (orc := numO) (by simp; exact moreOk) (by kernel_rfl) (by kernel_rfl) (fun _ => by exact Nat.le_of_ble_eq_true (by kernel_rfl)) fun y hy => Eq.mp (numV_eq y) (numH y hy)
theorem rnumH (y : By × Int) (hy : rnumC.pre y) : rnumVC y := by
  have h1 : y.1.length ≤ 1073741824 := hy
  intro hin
  rw [inR64] at hin
  have hu : y.2.toNat < 9223372036854775808 := by omega
  have hk := nb_le (u := y.2.toNat) (by omega)
  have hU : uOf y.2 = (y.2.toNat : Int) := rfl
  refine ⟨?_, ⟨fun h2 => ⟨(), rfl, ?_, ⟨trivial⟩⟩, fun h2 => ⟨(), rfl, ?_, ⟨trivial⟩⟩⟩, fun _ _ => ⟨⟨0, rfl, rfl, rfl, ?_, ⟨Nat.zero_le _⟩⟩, fun x hx => ⟨fun h2 => ⟨rfl, ?_, x + 1, rfl, rfl, ?_, ?_, ⟨?_, ?_⟩⟩, fun h2 => ⟨?_, ⟨nb y.2.toNat, rfl, ?_, ?_, ⟨Nat.le_refl _⟩⟩, fun z hz => ⟨fun h3 => ?_, fun h3 => ⟨?_, trivial⟩⟩⟩⟩⟩⟩
  · rw [lcat_eq, llen_eq, fits_t]; simp; omega
  · rw [ilt_t] at h2; rw [hU]; omega
  · rw [ilt_f] at h2; rw [hU]; omega
  · rw [hU]; simp
  · rw [ile_t]; exact Int.natCast_nonneg _
  · have := hx.out
    rw [iadd64 (by omega) (by omega)]; rfl
  · have e := ishr64 (u := y.2.toNat / 256 ^ x) (j := 1) (by omega)
    rw [show (8 : Int) * ((1 : Nat) : Int) = 8 by rfl] at e
    rw [e, Nat.div_div_eq_div_mul, Nat.pow_one, ← Nat.pow_succ]
  · rw [ilt_t] at h2
    have := (nb_lt x y.2.toNat).2 (by omega)
    omega
  · rw [ilt_t] at h2
    have := (nb_lt x y.2.toNat).2 (by omega)
    omega
  · rw [lcat_eq, lcat_eq, llen_eq, fits_t]; simp; omega
  · have hx := hx.out
    rw [ilt_f] at h2
    have hn : ¬ x < nb y.2.toNat := fun hlt => by
      have := (nb_lt x y.2.toNat).1 hlt
      omega
    have : x = nb y.2.toNat := by omega
    subst this
    rw [lcat_eq, lcat_eq, b8U]
    unfold numP
    rw [dn_none]
    rfl
  · have hx := hx.out
    rw [ilt_f] at h2
    have hn : ¬ x < nb y.2.toNat := fun hlt => by
      have := (nb_lt x y.2.toNat).1 hlt
      omega
    have : x = nb y.2.toNat := by omega
    subst this
    rw [isub64 (by omega) (by omega)]
  · have hz := hz.out
    rw [ile_t] at h3
    have ex : ((z : Int) - 1) = ((z - 1 : Nat) : Int) := by omega
    have em : imul .i64 8 ((z - 1 : Nat) : Int) = 8 * ((z - 1 : Nat) : Int) := imul64 (by omega) (by omega)
    refine ⟨?_, ?_, ?_, z - 1, rfl, ?_, ?_, ⟨?_, ?_⟩⟩
    · rw [ex, em, ile_t]; omega
    · rw [hU, ile_t]; omega
    · rw [lcat_eq, llen_eq, fits_t]; simp [numP_len]; omega
    · rw [hU, ex, em, ishr64 (by omega), b8U, lcat_eq]
      unfold numP
      have := dn_step (u := y.2.toNat) (j := z - 1) (k := nb y.2.toNat) (by omega)
      rw [show z - 1 + 1 = z by omega] at this
      rw [this]
      simp
    · rw [ex, isub64 (by omega) (by omega)]
    · omega
    · omega
  · have hz := hz.out
    rw [ile_f] at h3
    have : z = 0 := by omega
    subst this
    show numP y.1 y.2.toNat 0 = numP y.1 (min y.2.toNat 9223372036854775807) 0
    rw [Nat.min_eq_left (by omega)]
theorem rnumOk : Ok rnumC := okOf (tab := []) (fn := Tryz.f28) (orc := rnumO) (by simp) (by kernel_rfl) (by kernel_rfl) (fun _ => by exact Nat.le_of_ble_eq_true (by kernel_rfl)) fun y hy => Eq.mp (rnumV_eq y) (rnumH y hy)
theorem numF_len (b : By) (n : Int) : (numF b n).length ≤ b.length + 9 := by
  have := nb_le (u := min n.toNat 9223372036854775807) (by omega)
  unfold numF
  rw [numP_len]
  omega
theorem flagH (y : By × Bool) (hy : flagC.pre y) : flagVC y :=
  ⟨fun h => ⟨⟨hy⟩, rfl, rfl, by unfold flagF; rw [if_pos h], trivial⟩, fun h => ⟨⟨hy⟩, rfl, rfl, by unfold flagF; rw [if_neg (by rw [h]; simp)], trivial⟩⟩
theorem flagOk : Ok flagC := okOf (tab := [numC]) (fn := Tryz.f23) (orc := flagO) (by simp; exact numOk) (by kernel_rfl) (by kernel_rfl) (fun _ => by exact Nat.le_of_ble_eq_true (by kernel_rfl)) fun y hy => Eq.mp (flagV_eq y) (flagH y hy)
theorem rflagH (y : By × Bool) (hy : rflagC.pre y) : rflagVC y :=
  ⟨fun h => ⟨⟨hy⟩, rfl, rfl, by unfold flagF; rw [if_pos h], trivial⟩, fun h => ⟨⟨hy⟩, rfl, rfl, by unfold flagF; rw [if_neg (by rw [h]; simp)], trivial⟩⟩
theorem rflagOk : Ok rflagC := okOf (tab := [rnumC]) (fn := Tryz.f27) (orc := rflagO) (by simp; exact rnumOk) (by kernel_rfl) (by kernel_rfl) (fun _ => by exact Nat.le_of_ble_eq_true (by kernel_rfl)) fun y hy => Eq.mp (rflagV_eq y) (rflagH y hy)
theorem textH (y : By × By) (hy : textC.pre y) : textVC y := by
  obtain ⟨h1, h2⟩ : y.1.length ≤ 536870912 ∧ y.2.length ≤ 536870912 := hy
  have e : iadd IntKind.i64 (9 : Int) (slen y.2) = 9 + (y.2.length : Int) := iadd64 (by rw [slen_eq]; omega) (by rw [slen_eq]; omega)
  have hl := numF_len y.1 (y.2.length : Int)
  refine ⟨⟨by omega, by rw [e]; omega, by rw [e]; omega⟩, rfl, rfl, ⟨by omega⟩, rfl, rfl, ?_, rfl, trivial⟩
  rw [lcat_eq, llen_eq, slen_eq, fits_t]; simp; omega
theorem textOk : Ok textC := okOf (tab := [moreC, numC]) (fn := Tryz.f56) (orc := textO) (by simp; exact ⟨moreOk, numOk⟩) (by kernel_rfl) (by kernel_rfl) (fun _ => by exact Nat.le_of_ble_eq_true (by kernel_rfl)) fun y hy => Eq.mp (textV_eq y) (textH y hy)
theorem rtextH (y : By × By) (hy : rtextC.pre y) : rtextVC y := by
  obtain ⟨h1, h2⟩ : y.1.length ≤ 536870912 ∧ y.2.length ≤ 536870912 := hy
  have hl := numF_len y.1 (y.2.length : Int)
  refine ⟨⟨by omega⟩, rfl, rfl, ?_, rfl, trivial⟩
  rw [lcat_eq, llen_eq, slen_eq, fits_t]; simp; omega
theorem rtextOk : Ok rtextC := okOf (tab := [rnumC]) (fn := Tryz.f58) (orc := rtextO) (by simp; exact rnumOk) (by kernel_rfl) (by kernel_rfl) (fun _ => by exact Nat.le_of_ble_eq_true (by kernel_rfl)) fun y hy => Eq.mp (rtextV_eq y) (rtextH y hy)
end Go.Proofs.YtacolbfofamocaaGreat.sx
/- Contracts of places (caps) as bytes. -/
namespace Go.Proofs.YtacolbfofamocaaGreat.sx
open Go Go.RowKit
noncomputable section
def capN (x : Int) : Int := imin (imax x (-1)) 9223372036854775806 + 1
def capsL (c : Caps) : List Int := [c.c0, c.c1, c.c2, c.c3, c.c4, c.c5, c.c6, c.c7, c.c8, c.c9]
def capsF (b : By) (c : Caps) : By := (capsL c).foldl (fun b x => numF b (capN x)) b
def inBC (args : List (AV D.E)) (s : St D.E) : C (By × Caps) := match args with
  | [a, b] => bnd (rowsOf D s 0 a) fun l => bnd (asAgg b) fun cs => bnd (ofO (dec11 cs)) fun c => .ret ((l : By), (c : Caps))
  | _ => .fail
def capsC : Con D where
  f := 53
  Y := By × Caps
  inp := inBC
  pre := fun y => y.1.length ≤ 1073741724
  args := fun y => [.list 0 y.1, .agg (encD 11 y.2)]
  heap := fun _ => []
  res := fun y => .grow 0 (capsF y.1 y.2) 0
  heap' := fun _ => [(0, .tok 0 5)]
  nx0 := 0
  nx1 := 1
def capsO (_ : capsC.Y) : Orc D := ⟨[(0, .fact 1)], [], [], [], 11, []⟩
def capsV (y : capsC.Y) : Prop := vcOf [numC] Tryz.f53 capsC capsO y
end
end Go.Proofs.YtacolbfofamocaaGreat.sx
/- Conditions, as a tool printed them; that they are the functions' own the kernel computes. -/
namespace Go.Proofs.YtacolbfofamocaaGreat.sx
open Go Go.RowKit
def capsVC (y : Prod (List UInt8) Caps) : Prop :=
 (((inR IntKind.i64 (Caps.c0 y.2)) = true) ∧ ((inR IntKind.i64 (Caps.c1 y.2)) = true) ∧ ((inR IntKind.i64 (Caps.c2 y.2)) = true) ∧ ((inR IntKind.i64 (Caps.c3 y.2)) = true) ∧ ((inR IntKind.i64 (Caps.c4 y.2)) = true) ∧ ((inR IntKind.i64 (Caps.c5 y.2)) = true) ∧ ((inR IntKind.i64 (Caps.c6 y.2)) = true) ∧ ((inR IntKind.i64 (Caps.c7 y.2)) = true) ∧ ((inR IntKind.i64 (Caps.c8 y.2)) = true) ∧ ((inR IntKind.i64 (Caps.c9 y.2)) = true) ∧ True) →
  (Iv ((List.length y.1 : Nat) ≤ 1073741824)) ∧
  (@Eq (List UInt8) y.1 y.1) ∧
  (@Eq Int (iadd IntKind.i64 (imin (imax (Caps.c0 y.2) (Neg.neg (1 : Int))) (9223372036854775806 : Int)) (1 : Int)) (iadd IntKind.i64 (imin (imax (Caps.c0 y.2) (Neg.neg (1 : Int))) (9223372036854775806 : Int)) (1 : Int))) ∧
  (Iv ((List.length (numF y.1 (iadd IntKind.i64 (imin (imax (Caps.c0 y.2) (Neg.neg (1 : Int))) (9223372036854775806 : Int)) (1 : Int))) : Nat) ≤ 1073741824)) ∧
  (@Eq (List UInt8) (numF y.1 (iadd IntKind.i64 (imin (imax (Caps.c0 y.2) (Neg.neg (1 : Int))) (9223372036854775806 : Int)) (1 : Int))) (numF y.1 (iadd IntKind.i64 (imin (imax (Caps.c0 y.2) (Neg.neg (1 : Int))) (9223372036854775806 : Int)) (1 : Int)))) ∧
  (@Eq Int (iadd IntKind.i64 (imin (imax (Caps.c1 y.2) (Neg.neg (1 : Int))) (9223372036854775806 : Int)) (1 : Int)) (iadd IntKind.i64 (imin (imax (Caps.c1 y.2) (Neg.neg (1 : Int))) (9223372036854775806 : Int)) (1 : Int))) ∧
  (Iv ((List.length (numF (numF y.1 (iadd IntKind.i64 (imin (imax (Caps.c0 y.2) (Neg.neg (1 : Int))) (9223372036854775806 : Int)) (1 : Int))) (iadd IntKind.i64 (imin (imax (Caps.c1 y.2) (Neg.neg (1 : Int))) (9223372036854775806 : Int)) (1 : Int))) : Nat) ≤ 1073741824)) ∧
  (@Eq (List UInt8) (numF (numF y.1 (iadd IntKind.i64 (imin (imax (Caps.c0 y.2) (Neg.neg (1 : Int))) (9223372036854775806 : Int)) (1 : Int))) (iadd IntKind.i64 (imin (imax (Caps.c1 y.2) (Neg.neg (1 : Int))) (9223372036854775806 : Int)) (1 : Int))) (numF (numF y.1 (iadd IntKind.i64 (imin (imax (Caps.c0 y.2) (Neg.neg (1 : Int))) (9223372036854775806 : Int)) (1 : Int))) (iadd IntKind.i64 (imin (imax (Caps.c1 y.2) (Neg.neg (1 : Int))) (9223372036854775806 : Int)) (1 : Int)))) ∧
  (@Eq Int (iadd IntKind.i64 (imin (imax (Caps.c2 y.2) (Neg.neg (1 : Int))) (9223372036854775806 : Int)) (1 : Int)) (iadd IntKind.i64 (imin (imax (Caps.c2 y.2) (Neg.neg (1 : Int))) (9223372036854775806 : Int)) (1 : Int))) ∧
  (Iv ((List.length (numF (numF (numF y.1 (iadd IntKind.i64 (imin (imax (Caps.c0 y.2) (Neg.neg (1 : Int))) (9223372036854775806 : Int)) (1 : Int))) (iadd IntKind.i64 (imin (imax (Caps.c1 y.2) (Neg.neg (1 : Int))) (9223372036854775806 : Int)) (1 : Int))) (iadd IntKind.i64 (imin (imax (Caps.c2 y.2) (Neg.neg (1 : Int))) (9223372036854775806 : Int)) (1 : Int))) : Nat) ≤ 1073741824)) ∧
  (@Eq (List UInt8) (numF (numF (numF y.1 (iadd IntKind.i64 (imin (imax (Caps.c0 y.2) (Neg.neg (1 : Int))) (9223372036854775806 : Int)) (1 : Int))) (iadd IntKind.i64 (imin (imax (Caps.c1 y.2) (Neg.neg (1 : Int))) (9223372036854775806 : Int)) (1 : Int))) (iadd IntKind.i64 (imin (imax (Caps.c2 y.2) (Neg.neg (1 : Int))) (9223372036854775806 : Int)) (1 : Int))) (numF (numF (numF y.1 (iadd IntKind.i64 (imin (imax (Caps.c0 y.2) (Neg.neg (1 : Int))) (9223372036854775806 : Int)) (1 : Int))) (iadd IntKind.i64 (imin (imax (Caps.c1 y.2) (Neg.neg (1 : Int))) (9223372036854775806 : Int)) (1 : Int))) (iadd IntKind.i64 (imin (imax (Caps.c2 y.2) (Neg.neg (1 : Int))) (9223372036854775806 : Int)) (1 : Int)))) ∧
  (@Eq Int (iadd IntKind.i64 (imin (imax (Caps.c3 y.2) (Neg.neg (1 : Int))) (9223372036854775806 : Int)) (1 : Int)) (iadd IntKind.i64 (imin (imax (Caps.c3 y.2) (Neg.neg (1 : Int))) (9223372036854775806 : Int)) (1 : Int))) ∧
  (Iv ((List.length (numF (numF (numF (numF y.1 (iadd IntKind.i64 (imin (imax (Caps.c0 y.2) (Neg.neg (1 : Int))) (9223372036854775806 : Int)) (1 : Int))) (iadd IntKind.i64 (imin (imax (Caps.c1 y.2) (Neg.neg (1 : Int))) (9223372036854775806 : Int)) (1 : Int))) (iadd IntKind.i64 (imin (imax (Caps.c2 y.2) (Neg.neg (1 : Int))) (9223372036854775806 : Int)) (1 : Int))) (iadd IntKind.i64 (imin (imax (Caps.c3 y.2) (Neg.neg (1 : Int))) (9223372036854775806 : Int)) (1 : Int))) : Nat) ≤ 1073741824)) ∧
  (@Eq (List UInt8) (numF (numF (numF (numF y.1 (iadd IntKind.i64 (imin (imax (Caps.c0 y.2) (Neg.neg (1 : Int))) (9223372036854775806 : Int)) (1 : Int))) (iadd IntKind.i64 (imin (imax (Caps.c1 y.2) (Neg.neg (1 : Int))) (9223372036854775806 : Int)) (1 : Int))) (iadd IntKind.i64 (imin (imax (Caps.c2 y.2) (Neg.neg (1 : Int))) (9223372036854775806 : Int)) (1 : Int))) (iadd IntKind.i64 (imin (imax (Caps.c3 y.2) (Neg.neg (1 : Int))) (9223372036854775806 : Int)) (1 : Int))) (numF (numF (numF (numF y.1 (iadd IntKind.i64 (imin (imax (Caps.c0 y.2) (Neg.neg (1 : Int))) (9223372036854775806 : Int)) (1 : Int))) (iadd IntKind.i64 (imin (imax (Caps.c1 y.2) (Neg.neg (1 : Int))) (9223372036854775806 : Int)) (1 : Int))) (iadd IntKind.i64 (imin (imax (Caps.c2 y.2) (Neg.neg (1 : Int))) (9223372036854775806 : Int)) (1 : Int))) (iadd IntKind.i64 (imin (imax (Caps.c3 y.2) (Neg.neg (1 : Int))) (9223372036854775806 : Int)) (1 : Int)))) ∧
  (@Eq Int (iadd IntKind.i64 (imin (imax (Caps.c4 y.2) (Neg.neg (1 : Int))) (9223372036854775806 : Int)) (1 : Int)) (iadd IntKind.i64 (imin (imax (Caps.c4 y.2) (Neg.neg (1 : Int))) (9223372036854775806 : Int)) (1 : Int))) ∧
  (Iv ((List.length (numF (numF (numF (numF (numF y.1 (iadd IntKind.i64 (imin (imax (Caps.c0 y.2) (Neg.neg (1 : Int))) (9223372036854775806 : Int)) (1 : Int))) (iadd IntKind.i64 (imin (imax (Caps.c1 y.2) (Neg.neg (1 : Int))) (9223372036854775806 : Int)) (1 : Int))) (iadd IntKind.i64 (imin (imax (Caps.c2 y.2) (Neg.neg (1 : Int))) (9223372036854775806 : Int)) (1 : Int))) (iadd IntKind.i64 (imin (imax (Caps.c3 y.2) (Neg.neg (1 : Int))) (9223372036854775806 : Int)) (1 : Int))) (iadd IntKind.i64 (imin (imax (Caps.c4 y.2) (Neg.neg (1 : Int))) (9223372036854775806 : Int)) (1 : Int))) : Nat) ≤ 1073741824)) ∧
  (@Eq (List UInt8) (numF (numF (numF (numF (numF y.1 (iadd IntKind.i64 (imin (imax (Caps.c0 y.2) (Neg.neg (1 : Int))) (9223372036854775806 : Int)) (1 : Int))) (iadd IntKind.i64 (imin (imax (Caps.c1 y.2) (Neg.neg (1 : Int))) (9223372036854775806 : Int)) (1 : Int))) (iadd IntKind.i64 (imin (imax (Caps.c2 y.2) (Neg.neg (1 : Int))) (9223372036854775806 : Int)) (1 : Int))) (iadd IntKind.i64 (imin (imax (Caps.c3 y.2) (Neg.neg (1 : Int))) (9223372036854775806 : Int)) (1 : Int))) (iadd IntKind.i64 (imin (imax (Caps.c4 y.2) (Neg.neg (1 : Int))) (9223372036854775806 : Int)) (1 : Int))) (numF (numF (numF (numF (numF y.1 (iadd IntKind.i64 (imin (imax (Caps.c0 y.2) (Neg.neg (1 : Int))) (9223372036854775806 : Int)) (1 : Int))) (iadd IntKind.i64 (imin (imax (Caps.c1 y.2) (Neg.neg (1 : Int))) (9223372036854775806 : Int)) (1 : Int))) (iadd IntKind.i64 (imin (imax (Caps.c2 y.2) (Neg.neg (1 : Int))) (9223372036854775806 : Int)) (1 : Int))) (iadd IntKind.i64 (imin (imax (Caps.c3 y.2) (Neg.neg (1 : Int))) (9223372036854775806 : Int)) (1 : Int))) (iadd IntKind.i64 (imin (imax (Caps.c4 y.2) (Neg.neg (1 : Int))) (9223372036854775806 : Int)) (1 : Int)))) ∧
  (@Eq Int (iadd IntKind.i64 (imin (imax (Caps.c5 y.2) (Neg.neg (1 : Int))) (9223372036854775806 : Int)) (1 : Int)) (iadd IntKind.i64 (imin (imax (Caps.c5 y.2) (Neg.neg (1 : Int))) (9223372036854775806 : Int)) (1 : Int))) ∧
  (Iv ((List.length (numF (numF (numF (numF (numF (numF y.1 (iadd IntKind.i64 (imin (imax (Caps.c0 y.2) (Neg.neg (1 : Int))) (9223372036854775806 : Int)) (1 : Int))) (iadd IntKind.i64 (imin (imax (Caps.c1 y.2) (Neg.neg (1 : Int))) (9223372036854775806 : Int)) (1 : Int))) (iadd IntKind.i64 (imin (imax (Caps.c2 y.2) (Neg.neg (1 : Int))) (9223372036854775806 : Int)) (1 : Int))) (iadd IntKind.i64 (imin (imax (Caps.c3 y.2) (Neg.neg (1 : Int))) (9223372036854775806 : Int)) (1 : Int))) (iadd IntKind.i64 (imin (imax (Caps.c4 y.2) (Neg.neg (1 : Int))) (9223372036854775806 : Int)) (1 : Int))) (iadd IntKind.i64 (imin (imax (Caps.c5 y.2) (Neg.neg (1 : Int))) (9223372036854775806 : Int)) (1 : Int))) : Nat) ≤ 1073741824)) ∧
  (@Eq (List UInt8) (numF (numF (numF (numF (numF (numF y.1 (iadd IntKind.i64 (imin (imax (Caps.c0 y.2) (Neg.neg (1 : Int))) (9223372036854775806 : Int)) (1 : Int))) (iadd IntKind.i64 (imin (imax (Caps.c1 y.2) (Neg.neg (1 : Int))) (9223372036854775806 : Int)) (1 : Int))) (iadd IntKind.i64 (imin (imax (Caps.c2 y.2) (Neg.neg (1 : Int))) (9223372036854775806 : Int)) (1 : Int))) (iadd IntKind.i64 (imin (imax (Caps.c3 y.2) (Neg.neg (1 : Int))) (9223372036854775806 : Int)) (1 : Int))) (iadd IntKind.i64 (imin (imax (Caps.c4 y.2) (Neg.neg (1 : Int))) (9223372036854775806 : Int)) (1 : Int))) (iadd IntKind.i64 (imin (imax (Caps.c5 y.2) (Neg.neg (1 : Int))) (9223372036854775806 : Int)) (1 : Int))) (numF (numF (numF (numF (numF (numF y.1 (iadd IntKind.i64 (imin (imax (Caps.c0 y.2) (Neg.neg (1 : Int))) (9223372036854775806 : Int)) (1 : Int))) (iadd IntKind.i64 (imin (imax (Caps.c1 y.2) (Neg.neg (1 : Int))) (9223372036854775806 : Int)) (1 : Int))) (iadd IntKind.i64 (imin (imax (Caps.c2 y.2) (Neg.neg (1 : Int))) (9223372036854775806 : Int)) (1 : Int))) (iadd IntKind.i64 (imin (imax (Caps.c3 y.2) (Neg.neg (1 : Int))) (9223372036854775806 : Int)) (1 : Int))) (iadd IntKind.i64 (imin (imax (Caps.c4 y.2) (Neg.neg (1 : Int))) (9223372036854775806 : Int)) (1 : Int))) (iadd IntKind.i64 (imin (imax (Caps.c5 y.2) (Neg.neg (1 : Int))) (9223372036854775806 : Int)) (1 : Int)))) ∧
  (@Eq Int (iadd IntKind.i64 (imin (imax (Caps.c6 y.2) (Neg.neg (1 : Int))) (9223372036854775806 : Int)) (1 : Int)) (iadd IntKind.i64 (imin (imax (Caps.c6 y.2) (Neg.neg (1 : Int))) (9223372036854775806 : Int)) (1 : Int))) ∧
  (Iv ((List.length (numF (numF (numF (numF (numF (numF (numF y.1 (iadd IntKind.i64 (imin (imax (Caps.c0 y.2) (Neg.neg (1 : Int))) (9223372036854775806 : Int)) (1 : Int))) (iadd IntKind.i64 (imin (imax (Caps.c1 y.2) (Neg.neg (1 : Int))) (9223372036854775806 : Int)) (1 : Int))) (iadd IntKind.i64 (imin (imax (Caps.c2 y.2) (Neg.neg (1 : Int))) (9223372036854775806 : Int)) (1 : Int))) (iadd IntKind.i64 (imin (imax (Caps.c3 y.2) (Neg.neg (1 : Int))) (9223372036854775806 : Int)) (1 : Int))) (iadd IntKind.i64 (imin (imax (Caps.c4 y.2) (Neg.neg (1 : Int))) (9223372036854775806 : Int)) (1 : Int))) (iadd IntKind.i64 (imin (imax (Caps.c5 y.2) (Neg.neg (1 : Int))) (9223372036854775806 : Int)) (1 : Int))) (iadd IntKind.i64 (imin (imax (Caps.c6 y.2) (Neg.neg (1 : Int))) (9223372036854775806 : Int)) (1 : Int))) : Nat) ≤ 1073741824)) ∧
  (@Eq (List UInt8) (numF (numF (numF (numF (numF (numF (numF y.1 (iadd IntKind.i64 (imin (imax (Caps.c0 y.2) (Neg.neg (1 : Int))) (9223372036854775806 : Int)) (1 : Int))) (iadd IntKind.i64 (imin (imax (Caps.c1 y.2) (Neg.neg (1 : Int))) (9223372036854775806 : Int)) (1 : Int))) (iadd IntKind.i64 (imin (imax (Caps.c2 y.2) (Neg.neg (1 : Int))) (9223372036854775806 : Int)) (1 : Int))) (iadd IntKind.i64 (imin (imax (Caps.c3 y.2) (Neg.neg (1 : Int))) (9223372036854775806 : Int)) (1 : Int))) (iadd IntKind.i64 (imin (imax (Caps.c4 y.2) (Neg.neg (1 : Int))) (9223372036854775806 : Int)) (1 : Int))) (iadd IntKind.i64 (imin (imax (Caps.c5 y.2) (Neg.neg (1 : Int))) (9223372036854775806 : Int)) (1 : Int))) (iadd IntKind.i64 (imin (imax (Caps.c6 y.2) (Neg.neg (1 : Int))) (9223372036854775806 : Int)) (1 : Int))) (numF (numF (numF (numF (numF (numF (numF y.1 (iadd IntKind.i64 (imin (imax (Caps.c0 y.2) (Neg.neg (1 : Int))) (9223372036854775806 : Int)) (1 : Int))) (iadd IntKind.i64 (imin (imax (Caps.c1 y.2) (Neg.neg (1 : Int))) (9223372036854775806 : Int)) (1 : Int))) (iadd IntKind.i64 (imin (imax (Caps.c2 y.2) (Neg.neg (1 : Int))) (9223372036854775806 : Int)) (1 : Int))) (iadd IntKind.i64 (imin (imax (Caps.c3 y.2) (Neg.neg (1 : Int))) (9223372036854775806 : Int)) (1 : Int))) (iadd IntKind.i64 (imin (imax (Caps.c4 y.2) (Neg.neg (1 : Int))) (9223372036854775806 : Int)) (1 : Int))) (iadd IntKind.i64 (imin (imax (Caps.c5 y.2) (Neg.neg (1 : Int))) (9223372036854775806 : Int)) (1 : Int))) (iadd IntKind.i64 (imin (imax (Caps.c6 y.2) (Neg.neg (1 : Int))) (9223372036854775806 : Int)) (1 : Int)))) ∧
  (@Eq Int (iadd IntKind.i64 (imin (imax (Caps.c7 y.2) (Neg.neg (1 : Int))) (9223372036854775806 : Int)) (1 : Int)) (iadd IntKind.i64 (imin (imax (Caps.c7 y.2) (Neg.neg (1 : Int))) (9223372036854775806 : Int)) (1 : Int))) ∧
  (Iv ((List.length (numF (numF (numF (numF (numF (numF (numF (numF y.1 (iadd IntKind.i64 (imin (imax (Caps.c0 y.2) (Neg.neg (1 : Int))) (9223372036854775806 : Int)) (1 : Int))) (iadd IntKind.i64 (imin (imax (Caps.c1 y.2) (Neg.neg (1 : Int))) (9223372036854775806 : Int)) (1 : Int))) (iadd IntKind.i64 (imin (imax (Caps.c2 y.2) (Neg.neg (1 : Int))) (9223372036854775806 : Int)) (1 : Int))) (iadd IntKind.i64 (imin (imax (Caps.c3 y.2) (Neg.neg (1 : Int))) (9223372036854775806 : Int)) (1 : Int))) (iadd IntKind.i64 (imin (imax (Caps.c4 y.2) (Neg.neg (1 : Int))) (9223372036854775806 : Int)) (1 : Int))) (iadd IntKind.i64 (imin (imax (Caps.c5 y.2) (Neg.neg (1 : Int))) (9223372036854775806 : Int)) (1 : Int))) (iadd IntKind.i64 (imin (imax (Caps.c6 y.2) (Neg.neg (1 : Int))) (9223372036854775806 : Int)) (1 : Int))) (iadd IntKind.i64 (imin (imax (Caps.c7 y.2) (Neg.neg (1 : Int))) (9223372036854775806 : Int)) (1 : Int))) : Nat) ≤ 1073741824)) ∧
  (@Eq (List UInt8) (numF (numF (numF (numF (numF (numF (numF (numF y.1 (iadd IntKind.i64 (imin (imax (Caps.c0 y.2) (Neg.neg (1 : Int))) (9223372036854775806 : Int)) (1 : Int))) (iadd IntKind.i64 (imin (imax (Caps.c1 y.2) (Neg.neg (1 : Int))) (9223372036854775806 : Int)) (1 : Int))) (iadd IntKind.i64 (imin (imax (Caps.c2 y.2) (Neg.neg (1 : Int))) (9223372036854775806 : Int)) (1 : Int))) (iadd IntKind.i64 (imin (imax (Caps.c3 y.2) (Neg.neg (1 : Int))) (9223372036854775806 : Int)) (1 : Int))) (iadd IntKind.i64 (imin (imax (Caps.c4 y.2) (Neg.neg (1 : Int))) (9223372036854775806 : Int)) (1 : Int))) (iadd IntKind.i64 (imin (imax (Caps.c5 y.2) (Neg.neg (1 : Int))) (9223372036854775806 : Int)) (1 : Int))) (iadd IntKind.i64 (imin (imax (Caps.c6 y.2) (Neg.neg (1 : Int))) (9223372036854775806 : Int)) (1 : Int))) (iadd IntKind.i64 (imin (imax (Caps.c7 y.2) (Neg.neg (1 : Int))) (9223372036854775806 : Int)) (1 : Int))) (numF (numF (numF (numF (numF (numF (numF (numF y.1 (iadd IntKind.i64 (imin (imax (Caps.c0 y.2) (Neg.neg (1 : Int))) (9223372036854775806 : Int)) (1 : Int))) (iadd IntKind.i64 (imin (imax (Caps.c1 y.2) (Neg.neg (1 : Int))) (9223372036854775806 : Int)) (1 : Int))) (iadd IntKind.i64 (imin (imax (Caps.c2 y.2) (Neg.neg (1 : Int))) (9223372036854775806 : Int)) (1 : Int))) (iadd IntKind.i64 (imin (imax (Caps.c3 y.2) (Neg.neg (1 : Int))) (9223372036854775806 : Int)) (1 : Int))) (iadd IntKind.i64 (imin (imax (Caps.c4 y.2) (Neg.neg (1 : Int))) (9223372036854775806 : Int)) (1 : Int))) (iadd IntKind.i64 (imin (imax (Caps.c5 y.2) (Neg.neg (1 : Int))) (9223372036854775806 : Int)) (1 : Int))) (iadd IntKind.i64 (imin (imax (Caps.c6 y.2) (Neg.neg (1 : Int))) (9223372036854775806 : Int)) (1 : Int))) (iadd IntKind.i64 (imin (imax (Caps.c7 y.2) (Neg.neg (1 : Int))) (9223372036854775806 : Int)) (1 : Int)))) ∧
  (@Eq Int (iadd IntKind.i64 (imin (imax (Caps.c8 y.2) (Neg.neg (1 : Int))) (9223372036854775806 : Int)) (1 : Int)) (iadd IntKind.i64 (imin (imax (Caps.c8 y.2) (Neg.neg (1 : Int))) (9223372036854775806 : Int)) (1 : Int))) ∧
  (Iv ((List.length (numF (numF (numF (numF (numF (numF (numF (numF (numF y.1 (iadd IntKind.i64 (imin (imax (Caps.c0 y.2) (Neg.neg (1 : Int))) (9223372036854775806 : Int)) (1 : Int))) (iadd IntKind.i64 (imin (imax (Caps.c1 y.2) (Neg.neg (1 : Int))) (9223372036854775806 : Int)) (1 : Int))) (iadd IntKind.i64 (imin (imax (Caps.c2 y.2) (Neg.neg (1 : Int))) (9223372036854775806 : Int)) (1 : Int))) (iadd IntKind.i64 (imin (imax (Caps.c3 y.2) (Neg.neg (1 : Int))) (9223372036854775806 : Int)) (1 : Int))) (iadd IntKind.i64 (imin (imax (Caps.c4 y.2) (Neg.neg (1 : Int))) (9223372036854775806 : Int)) (1 : Int))) (iadd IntKind.i64 (imin (imax (Caps.c5 y.2) (Neg.neg (1 : Int))) (9223372036854775806 : Int)) (1 : Int))) (iadd IntKind.i64 (imin (imax (Caps.c6 y.2) (Neg.neg (1 : Int))) (9223372036854775806 : Int)) (1 : Int))) (iadd IntKind.i64 (imin (imax (Caps.c7 y.2) (Neg.neg (1 : Int))) (9223372036854775806 : Int)) (1 : Int))) (iadd IntKind.i64 (imin (imax (Caps.c8 y.2) (Neg.neg (1 : Int))) (9223372036854775806 : Int)) (1 : Int))) : Nat) ≤ 1073741824)) ∧
  (@Eq (List UInt8) (numF (numF (numF (numF (numF (numF (numF (numF (numF y.1 (iadd IntKind.i64 (imin (imax (Caps.c0 y.2) (Neg.neg (1 : Int))) (9223372036854775806 : Int)) (1 : Int))) (iadd IntKind.i64 (imin (imax (Caps.c1 y.2) (Neg.neg (1 : Int))) (9223372036854775806 : Int)) (1 : Int))) (iadd IntKind.i64 (imin (imax (Caps.c2 y.2) (Neg.neg (1 : Int))) (9223372036854775806 : Int)) (1 : Int))) (iadd IntKind.i64 (imin (imax (Caps.c3 y.2) (Neg.neg (1 : Int))) (9223372036854775806 : Int)) (1 : Int))) (iadd IntKind.i64 (imin (imax (Caps.c4 y.2) (Neg.neg (1 : Int))) (9223372036854775806 : Int)) (1 : Int))) (iadd IntKind.i64 (imin (imax (Caps.c5 y.2) (Neg.neg (1 : Int))) (9223372036854775806 : Int)) (1 : Int))) (iadd IntKind.i64 (imin (imax (Caps.c6 y.2) (Neg.neg (1 : Int))) (9223372036854775806 : Int)) (1 : Int))) (iadd IntKind.i64 (imin (imax (Caps.c7 y.2) (Neg.neg (1 : Int))) (9223372036854775806 : Int)) (1 : Int))) (iadd IntKind.i64 (imin (imax (Caps.c8 y.2) (Neg.neg (1 : Int))) (9223372036854775806 : Int)) (1 : Int))) (numF (numF (numF (numF (numF (numF (numF (numF (numF y.1 (iadd IntKind.i64 (imin (imax (Caps.c0 y.2) (Neg.neg (1 : Int))) (9223372036854775806 : Int)) (1 : Int))) (iadd IntKind.i64 (imin (imax (Caps.c1 y.2) (Neg.neg (1 : Int))) (9223372036854775806 : Int)) (1 : Int))) (iadd IntKind.i64 (imin (imax (Caps.c2 y.2) (Neg.neg (1 : Int))) (9223372036854775806 : Int)) (1 : Int))) (iadd IntKind.i64 (imin (imax (Caps.c3 y.2) (Neg.neg (1 : Int))) (9223372036854775806 : Int)) (1 : Int))) (iadd IntKind.i64 (imin (imax (Caps.c4 y.2) (Neg.neg (1 : Int))) (9223372036854775806 : Int)) (1 : Int))) (iadd IntKind.i64 (imin (imax (Caps.c5 y.2) (Neg.neg (1 : Int))) (9223372036854775806 : Int)) (1 : Int))) (iadd IntKind.i64 (imin (imax (Caps.c6 y.2) (Neg.neg (1 : Int))) (9223372036854775806 : Int)) (1 : Int))) (iadd IntKind.i64 (imin (imax (Caps.c7 y.2) (Neg.neg (1 : Int))) (9223372036854775806 : Int)) (1 : Int))) (iadd IntKind.i64 (imin (imax (Caps.c8 y.2) (Neg.neg (1 : Int))) (9223372036854775806 : Int)) (1 : Int)))) ∧
  (@Eq Int (iadd IntKind.i64 (imin (imax (Caps.c9 y.2) (Neg.neg (1 : Int))) (9223372036854775806 : Int)) (1 : Int)) (iadd IntKind.i64 (imin (imax (Caps.c9 y.2) (Neg.neg (1 : Int))) (9223372036854775806 : Int)) (1 : Int))) ∧
  (@Eq (List UInt8) (numF (numF (numF (numF (numF (numF (numF (numF (numF (numF y.1 (iadd IntKind.i64 (imin (imax (Caps.c0 y.2) (Neg.neg (1 : Int))) (9223372036854775806 : Int)) (1 : Int))) (iadd IntKind.i64 (imin (imax (Caps.c1 y.2) (Neg.neg (1 : Int))) (9223372036854775806 : Int)) (1 : Int))) (iadd IntKind.i64 (imin (imax (Caps.c2 y.2) (Neg.neg (1 : Int))) (9223372036854775806 : Int)) (1 : Int))) (iadd IntKind.i64 (imin (imax (Caps.c3 y.2) (Neg.neg (1 : Int))) (9223372036854775806 : Int)) (1 : Int))) (iadd IntKind.i64 (imin (imax (Caps.c4 y.2) (Neg.neg (1 : Int))) (9223372036854775806 : Int)) (1 : Int))) (iadd IntKind.i64 (imin (imax (Caps.c5 y.2) (Neg.neg (1 : Int))) (9223372036854775806 : Int)) (1 : Int))) (iadd IntKind.i64 (imin (imax (Caps.c6 y.2) (Neg.neg (1 : Int))) (9223372036854775806 : Int)) (1 : Int))) (iadd IntKind.i64 (imin (imax (Caps.c7 y.2) (Neg.neg (1 : Int))) (9223372036854775806 : Int)) (1 : Int))) (iadd IntKind.i64 (imin (imax (Caps.c8 y.2) (Neg.neg (1 : Int))) (9223372036854775806 : Int)) (1 : Int))) (iadd IntKind.i64 (imin (imax (Caps.c9 y.2) (Neg.neg (1 : Int))) (9223372036854775806 : Int)) (1 : Int))) (capsF y.1 y.2)) ∧
  True
theorem capsV_eq : ∀ y, capsVC y = capsV y := fun y => by kernel_rfl
end Go.Proofs.YtacolbfofamocaaGreat.sx
/- Places as bytes: the contracts hold. -/
namespace Go.Proofs.YtacolbfofamocaaGreat.sx
open Go Go.RowKit
set_option maxRecDepth 100000
theorem capA (x : Int) : iadd IntKind.i64 (imin (imax x (Neg.neg (1 : Int))) (9223372036854775806 : Int)) (1 : Int) = capN x := by
  unfold capN
  have h : -1 ≤ imin (imax x (-1)) 9223372036854775806 ∧ imin (imax x (-1)) 9223372036854775806 ≤ 9223372036854775806 := by
    unfold imin imax
    split <;> split <;> omega
  exact iadd64 (by omega) (by omega)
theorem capN_le (x : Int) : capN x ≤ 18446744073709551615 := by
  unfold capN imin imax
  split <;> split <;> omega
theorem numN_len {b : By} {k : Nat} (x : Int) (h : b.length ≤ k) : (numF b (capN x)).length ≤ k + 9 := by
  have := numF_len b (capN x)
  omega
theorem capsH (y : By × Caps) (hy : capsC.pre y) : capsVC y := by
  have h1 : y.1.length ≤ 1073741724 := hy
  intro _
  simp only [capA, true_and, and_true]
  have l1 := numN_len y.2.c0 h1
  have l2 := numN_len y.2.c1 l1
  have l3 := numN_len y.2.c2 l2
  have l4 := numN_len y.2.c3 l3
  have l5 := numN_len y.2.c4 l4
  have l6 := numN_len y.2.c5 l5
  have l7 := numN_len y.2.c6 l6
  have l8 := numN_len y.2.c7 l7
  have l9 := numN_len y.2.c8 l8
  exact ⟨⟨by omega⟩, ⟨by omega⟩, ⟨by omega⟩, ⟨by omega⟩, ⟨by omega⟩, ⟨by omega⟩, ⟨by omega⟩, ⟨by omega⟩, ⟨by omega⟩, ⟨by omega⟩, rfl⟩
theorem capsOk : Ok capsC := okOf (tab := [numC]) (fn := Tryz.f53) (orc := capsO) (by simp; exact numOk) (by kernel_rfl) (by kernel_rfl) (fun _ => by exact Nat.le_of_ble_eq_true (by kernel_rfl)) fun y hy => Eq.mp (capsV_eq y) (capsH y hy)
end Go.Proofs.YtacolbfofamocaaGreat.sx
/- Contracts of threads and lists as bytes. -/
namespace Go.Proofs.YtacolbfofamocaaGreat.sx
open Go Go.RowKit
noncomputable section
def capsOf (t : Thread) : Caps := ⟨t.c0, t.c1, t.c2, t.c3, t.c4, t.c5, t.c6, t.c7, t.c8, t.c9⟩
def thrF (b : By) (t : Thread) : By := capsF (numF b t.pc) (capsOf t)
def lthrP (b : By) (l : List Thread) (i : Nat) : By := (l.take i).foldl thrF (numF b l.length)
def lthrF (b : By) (l : List Thread) : By := l.foldl thrF (numF b l.length)
def thrC : Con D where
  f := 55
  Y := By × Thread
  inp := fun args s => match args with
    | [a, b] => bnd (rowsOf D s 0 a) fun l => bnd (asAgg b) fun cs => bnd (ofO (dec1 cs)) fun c => .ret ((l : By), (c : Thread))
    | _ => .fail
  pre := fun y => y.1.length ≤ 1073741624
  args := fun y => [.list 0 y.1, .agg (encD 1 y.2)]
  heap := fun _ => []
  res := fun y => .grow 0 (thrF y.1 y.2) 0
  heap' := fun _ => [(0, .tok 0 5)]
  nx0 := 0
  nx1 := 1
def thrO (_ : thrC.Y) : Orc D := ⟨[], [], [], [], 1, []⟩
def thrV (y : thrC.Y) : Prop := vcOf [numC, capsC] Tryz.f55 thrC thrO y
def lthrC : Con D where
  f := 54
  Y := By × List Thread
  inp := fun args s => match args with
    | [a, b, _] => bnd (rowsOf D s 0 a) fun l => bnd (rowsOf D s 1 b) fun c => .ret ((l : By), (c : List Thread))
    | _ => .fail
  pre := fun y => y.1.length + 99 * y.2.length ≤ 1073741524
  args := fun y => [.list 0 y.1, .list 1 y.2, .func (.func 55) [] []]
  heap := fun _ => []
  res := fun y => .grow 0 (lthrF y.1 y.2) 0
  heap' := fun _ => [(0, .tok 0 5)]
  nx0 := 0
  nx1 := 1
def lthrO (y : lthrC.Y) : Orc D := ⟨[], [], [(58, { X := Nat, keep := [2, 14, 15], sl := fun i => [(7, .grow 0 (lthrP y.1 y.2 i) 0), (16, .int .i64 i)], kp := [], pc := fun _ => [(0, .tok 0 5)], nx := 1, inv := fun i => i ≤ y.2.length, me := fun i => y.2.length - i })], [], 1, []⟩
def lthrV (y : lthrC.Y) : Prop := vcOf [numC, thrC] Tryz.f54 lthrC lthrO y
end
end Go.Proofs.YtacolbfofamocaaGreat.sx
/- Conditions, as a tool printed them; that they are the functions' own the kernel computes. -/
namespace Go.Proofs.YtacolbfofamocaaGreat.sx
open Go Go.RowKit
def thrVC (y : Prod (List UInt8) Thread) : Prop :=
 (Iv ((List.length y.1 : Nat) ≤ 1073741824)) ∧
 (@Eq (List UInt8) y.1 y.1) ∧
 (@Eq Int (Thread.pc y.2) (Thread.pc y.2)) ∧
 (Iv ((List.length (numF y.1 (Thread.pc y.2)) : Nat) ≤ 1073741724)) ∧
 (@Eq (List UInt8) (numF y.1 (Thread.pc y.2)) (numF y.1 (Thread.pc y.2))) ∧
 (@Eq Int (Thread.c0 y.2) (Thread.c0 y.2)) ∧
 (@Eq Int (Thread.c1 y.2) (Thread.c1 y.2)) ∧
 (@Eq Int (Thread.c2 y.2) (Thread.c2 y.2)) ∧
 (@Eq Int (Thread.c3 y.2) (Thread.c3 y.2)) ∧
 (@Eq Int (Thread.c4 y.2) (Thread.c4 y.2)) ∧
 (@Eq Int (Thread.c5 y.2) (Thread.c5 y.2)) ∧
 (@Eq Int (Thread.c6 y.2) (Thread.c6 y.2)) ∧
 (@Eq Int (Thread.c7 y.2) (Thread.c7 y.2)) ∧
 (@Eq Int (Thread.c8 y.2) (Thread.c8 y.2)) ∧
 (@Eq Int (Thread.c9 y.2) (Thread.c9 y.2)) ∧
 (@Eq Int (Thread.pc y.2) (Thread.pc y.2)) ∧
 (@Eq Int (Thread.c0 y.2) (Thread.c0 y.2)) ∧
 (@Eq Int (Thread.c1 y.2) (Thread.c1 y.2)) ∧
 (@Eq Int (Thread.c2 y.2) (Thread.c2 y.2)) ∧
 (@Eq Int (Thread.c3 y.2) (Thread.c3 y.2)) ∧
 (@Eq Int (Thread.c4 y.2) (Thread.c4 y.2)) ∧
 (@Eq Int (Thread.c5 y.2) (Thread.c5 y.2)) ∧
 (@Eq Int (Thread.c6 y.2) (Thread.c6 y.2)) ∧
 (@Eq Int (Thread.c7 y.2) (Thread.c7 y.2)) ∧
 (@Eq Int (Thread.c8 y.2) (Thread.c8 y.2)) ∧
 (@Eq Int (Thread.c9 y.2) (Thread.c9 y.2)) ∧
 (@Eq Int (Thread.c0 y.2) (Thread.c0 y.2)) ∧
 (@Eq Int (Thread.c1 y.2) (Thread.c1 y.2)) ∧
 (@Eq Int (Thread.c2 y.2) (Thread.c2 y.2)) ∧
 (@Eq Int (Thread.c3 y.2) (Thread.c3 y.2)) ∧
 (@Eq Int (Thread.c4 y.2) (Thread.c4 y.2)) ∧
 (@Eq Int (Thread.c5 y.2) (Thread.c5 y.2)) ∧
 (@Eq Int (Thread.c6 y.2) (Thread.c6 y.2)) ∧
 (@Eq Int (Thread.c7 y.2) (Thread.c7 y.2)) ∧
 (@Eq Int (Thread.c8 y.2) (Thread.c8 y.2)) ∧
 (@Eq Int (Thread.c9 y.2) (Thread.c9 y.2)) ∧
 (@Eq (List UInt8) (capsF (numF y.1 (Thread.pc y.2)) (Caps.mk (Thread.c0 y.2) (Thread.c1 y.2) (Thread.c2 y.2) (Thread.c3 y.2) (Thread.c4 y.2) (Thread.c5 y.2) (Thread.c6 y.2) (Thread.c7 y.2) (Thread.c8 y.2) (Thread.c9 y.2))) (thrF y.1 y.2)) ∧
 True
theorem thrV_eq : ∀ y, thrVC y = thrV y := fun y => by kernel_rfl
def lthrVC (y : Prod (List UInt8) (List Thread)) : Prop :=
 (Iv ((List.length y.1 : Nat) ≤ 1073741824)) ∧
 (@Eq (List UInt8) y.1 y.1) ∧
 (@Eq Int (llen y.2) (llen y.2)) ∧
 (
  ∃ z : Nat,
   (@Eq (List Thread) y.2 y.2) ∧
   (@Eq Int (llen y.2) (llen y.2)) ∧
   (@Eq (List UInt8) (numF y.1 (llen y.2)) (lthrP y.1 y.2 z)) ∧
   (@Eq Int (0 : Int) ((z : Nat) : Int)) ∧
   (Iv ((z : Nat) ≤ (List.length y.2)))) ∧
 (
  ∀ x : Nat,
   (Iv ((x : Nat) ≤ (List.length y.2))) →
    (
     ((ilt ((x : Nat) : Int) (llen y.2)) = true) →
      ((ile (0 : Int) ((x : Nat) : Int)) = true) ∧
      ((ilt ((x : Nat) : Int) (llen y.2)) = true) ∧
      (Iv ((List.length (lthrP y.1 y.2 x) : Nat) ≤ 1073741624)) ∧
      (@Eq (List UInt8) (lthrP y.1 y.2 x) (lthrP y.1 y.2 x)) ∧
      (@Eq Int (Thread.pc (gt (Thread.mk (0 : Int) (0 : Int) (0 : Int) (0 : Int) (0 : Int) (0 : Int) (0 : Int) (0 : Int) (0 : Int) (0 : Int) (0 : Int)) y.2 (Int.toNat ((x : Nat) : Int)))) (Thread.pc (gt (Thread.mk (0 : Int) (0 : Int) (0 : Int) (0 : Int) (0 : Int) (0 : Int) (0 : Int) (0 : Int) (0 : Int) (0 : Int) (0 : Int)) y.2 (Int.toNat ((x : Nat) : Int))))) ∧
      (@Eq Int (Thread.c0 (gt (Thread.mk (0 : Int) (0 : Int) (0 : Int) (0 : Int) (0 : Int) (0 : Int) (0 : Int) (0 : Int) (0 : Int) (0 : Int) (0 : Int)) y.2 (Int.toNat ((x : Nat) : Int)))) (Thread.c0 (gt (Thread.mk (0 : Int) (0 : Int) (0 : Int) (0 : Int) (0 : Int) (0 : Int) (0 : Int) (0 : Int) (0 : Int) (0 : Int) (0 : Int)) y.2 (Int.toNat ((x : Nat) : Int))))) ∧
      (@Eq Int (Thread.c1 (gt (Thread.mk (0 : Int) (0 : Int) (0 : Int) (0 : Int) (0 : Int) (0 : Int) (0 : Int) (0 : Int) (0 : Int) (0 : Int) (0 : Int)) y.2 (Int.toNat ((x : Nat) : Int)))) (Thread.c1 (gt (Thread.mk (0 : Int) (0 : Int) (0 : Int) (0 : Int) (0 : Int) (0 : Int) (0 : Int) (0 : Int) (0 : Int) (0 : Int) (0 : Int)) y.2 (Int.toNat ((x : Nat) : Int))))) ∧
      (@Eq Int (Thread.c2 (gt (Thread.mk (0 : Int) (0 : Int) (0 : Int) (0 : Int) (0 : Int) (0 : Int) (0 : Int) (0 : Int) (0 : Int) (0 : Int) (0 : Int)) y.2 (Int.toNat ((x : Nat) : Int)))) (Thread.c2 (gt (Thread.mk (0 : Int) (0 : Int) (0 : Int) (0 : Int) (0 : Int) (0 : Int) (0 : Int) (0 : Int) (0 : Int) (0 : Int) (0 : Int)) y.2 (Int.toNat ((x : Nat) : Int))))) ∧
      (@Eq Int (Thread.c3 (gt (Thread.mk (0 : Int) (0 : Int) (0 : Int) (0 : Int) (0 : Int) (0 : Int) (0 : Int) (0 : Int) (0 : Int) (0 : Int) (0 : Int)) y.2 (Int.toNat ((x : Nat) : Int)))) (Thread.c3 (gt (Thread.mk (0 : Int) (0 : Int) (0 : Int) (0 : Int) (0 : Int) (0 : Int) (0 : Int) (0 : Int) (0 : Int) (0 : Int) (0 : Int)) y.2 (Int.toNat ((x : Nat) : Int))))) ∧
      (@Eq Int (Thread.c4 (gt (Thread.mk (0 : Int) (0 : Int) (0 : Int) (0 : Int) (0 : Int) (0 : Int) (0 : Int) (0 : Int) (0 : Int) (0 : Int) (0 : Int)) y.2 (Int.toNat ((x : Nat) : Int)))) (Thread.c4 (gt (Thread.mk (0 : Int) (0 : Int) (0 : Int) (0 : Int) (0 : Int) (0 : Int) (0 : Int) (0 : Int) (0 : Int) (0 : Int) (0 : Int)) y.2 (Int.toNat ((x : Nat) : Int))))) ∧
      (@Eq Int (Thread.c5 (gt (Thread.mk (0 : Int) (0 : Int) (0 : Int) (0 : Int) (0 : Int) (0 : Int) (0 : Int) (0 : Int) (0 : Int) (0 : Int) (0 : Int)) y.2 (Int.toNat ((x : Nat) : Int)))) (Thread.c5 (gt (Thread.mk (0 : Int) (0 : Int) (0 : Int) (0 : Int) (0 : Int) (0 : Int) (0 : Int) (0 : Int) (0 : Int) (0 : Int) (0 : Int)) y.2 (Int.toNat ((x : Nat) : Int))))) ∧
      (@Eq Int (Thread.c6 (gt (Thread.mk (0 : Int) (0 : Int) (0 : Int) (0 : Int) (0 : Int) (0 : Int) (0 : Int) (0 : Int) (0 : Int) (0 : Int) (0 : Int)) y.2 (Int.toNat ((x : Nat) : Int)))) (Thread.c6 (gt (Thread.mk (0 : Int) (0 : Int) (0 : Int) (0 : Int) (0 : Int) (0 : Int) (0 : Int) (0 : Int) (0 : Int) (0 : Int) (0 : Int)) y.2 (Int.toNat ((x : Nat) : Int))))) ∧
      (@Eq Int (Thread.c7 (gt (Thread.mk (0 : Int) (0 : Int) (0 : Int) (0 : Int) (0 : Int) (0 : Int) (0 : Int) (0 : Int) (0 : Int) (0 : Int) (0 : Int)) y.2 (Int.toNat ((x : Nat) : Int)))) (Thread.c7 (gt (Thread.mk (0 : Int) (0 : Int) (0 : Int) (0 : Int) (0 : Int) (0 : Int) (0 : Int) (0 : Int) (0 : Int) (0 : Int) (0 : Int)) y.2 (Int.toNat ((x : Nat) : Int))))) ∧
      (@Eq Int (Thread.c8 (gt (Thread.mk (0 : Int) (0 : Int) (0 : Int) (0 : Int) (0 : Int) (0 : Int) (0 : Int) (0 : Int) (0 : Int) (0 : Int) (0 : Int)) y.2 (Int.toNat ((x : Nat) : Int)))) (Thread.c8 (gt (Thread.mk (0 : Int) (0 : Int) (0 : Int) (0 : Int) (0 : Int) (0 : Int) (0 : Int) (0 : Int) (0 : Int) (0 : Int) (0 : Int)) y.2 (Int.toNat ((x : Nat) : Int))))) ∧
      (@Eq Int (Thread.c9 (gt (Thread.mk (0 : Int) (0 : Int) (0 : Int) (0 : Int) (0 : Int) (0 : Int) (0 : Int) (0 : Int) (0 : Int) (0 : Int) (0 : Int)) y.2 (Int.toNat ((x : Nat) : Int)))) (Thread.c9 (gt (Thread.mk (0 : Int) (0 : Int) (0 : Int) (0 : Int) (0 : Int) (0 : Int) (0 : Int) (0 : Int) (0 : Int) (0 : Int) (0 : Int)) y.2 (Int.toNat ((x : Nat) : Int))))) ∧
      ∃ z : Nat,
       (@Eq (List Thread) y.2 y.2) ∧
       (@Eq Int (llen y.2) (llen y.2)) ∧
       (@Eq (List UInt8) (thrF (lthrP y.1 y.2 x) (Thread.mk (Thread.pc (gt (Thread.mk (0 : Int) (0 : Int) (0 : Int) (0 : Int) (0 : Int) (0 : Int) (0 : Int) (0 : Int) (0 : Int) (0 : Int) (0 : Int)) y.2 (Int.toNat ((x : Nat) : Int)))) (Thread.c0 (gt (Thread.mk (0 : Int) (0 : Int) (0 : Int) (0 : Int) (0 : Int) (0 : Int) (0 : Int) (0 : Int) (0 : Int) (0 : Int) (0 : Int)) y.2 (Int.toNat ((x : Nat) : Int)))) (Thread.c1 (gt (Thread.mk (0 : Int) (0 : Int) (0 : Int) (0 : Int) (0 : Int) (0 : Int) (0 : Int) (0 : Int) (0 : Int) (0 : Int) (0 : Int)) y.2 (Int.toNat ((x : Nat) : Int)))) (Thread.c2 (gt (Thread.mk (0 : Int) (0 : Int) (0 : Int) (0 : Int) (0 : Int) (0 : Int) (0 : Int) (0 : Int) (0 : Int) (0 : Int) (0 : Int)) y.2 (Int.toNat ((x : Nat) : Int)))) (Thread.c3 (gt (Thread.mk (0 : Int) (0 : Int) (0 : Int) (0 : Int) (0 : Int) (0 : Int) (0 : Int) (0 : Int) (0 : Int) (0 : Int) (0 : Int)) y.2 (Int.toNat ((x : Nat) : Int)))) (Thread.c4 (gt (Thread.mk (0 : Int) (0 : Int) (0 : Int) (0 : Int) (0 : Int) (0 : Int) (0 : Int) (0 : Int) (0 : Int) (0 : Int) (0 : Int)) y.2 (Int.toNat ((x : Nat) : Int)))) (Thread.c5 (gt (Thread.mk (0 : Int) (0 : Int) (0 : Int) (0 : Int) (0 : Int) (0 : Int) (0 : Int) (0 : Int) (0 : Int) (0 : Int) (0 : Int)) y.2 (Int.toNat ((x : Nat) : Int)))) (Thread.c6 (gt (Thread.mk (0 : Int) (0 : Int) (0 : Int) (0 : Int) (0 : Int) (0 : Int) (0 : Int) (0 : Int) (0 : Int) (0 : Int) (0 : Int)) y.2 (Int.toNat ((x : Nat) : Int)))) (Thread.c7 (gt (Thread.mk (0 : Int) (0 : Int) (0 : Int) (0 : Int) (0 : Int) (0 : Int) (0 : Int) (0 : Int) (0 : Int) (0 : Int) (0 : Int)) y.2 (Int.toNat ((x : Nat) : Int)))) (Thread.c8 (gt (Thread.mk (0 : Int) (0 : Int) (0 : Int) (0 : Int) (0 : Int) (0 : Int) (0 : Int) (0 : Int) (0 : Int) (0 : Int) (0 : Int)) y.2 (Int.toNat ((x : Nat) : Int)))) (Thread.c9 (gt (Thread.mk (0 : Int) (0 : Int) (0 : Int) (0 : Int) (0 : Int) (0 : Int) (0 : Int) (0 : Int) (0 : Int) (0 : Int) (0 : Int)) y.2 (Int.toNat ((x : Nat) : Int)))))) (lthrP y.1 y.2 z)) ∧
       (@Eq Int (iadd IntKind.i64 ((x : Nat) : Int) (1 : Int)) ((z : Nat) : Int)) ∧
       (Iv (((z : Nat) ≤ (List.length y.2)) ∧ ((List.length y.2 : Nat) - z : Nat) < ((List.length y.2 : Nat) - x)))) ∧
    (
     ((ilt ((x : Nat) : Int) (llen y.2)) = false) →
      (@Eq (List UInt8) (lthrP y.1 y.2 x) (lthrF y.1 y.2)) ∧
      True))
theorem lthrV_eq : ∀ y, lthrVC y = lthrV y := fun y => by kernel_rfl
end Go.Proofs.YtacolbfofamocaaGreat.sx
/- Threads and lists as bytes: the contracts hold. -/
namespace Go.Proofs.YtacolbfofamocaaGreat.sx
open Go Go.RowKit
set_option maxRecDepth 100000
theorem capsF_len {b : By} {k : Nat} (c : Caps) (h : b.length ≤ k) : (capsF b c).length ≤ k + 90 := by
  have l1 := numN_len c.c0 h
  have l2 := numN_len c.c1 l1
  have l3 := numN_len c.c2 l2
  have l4 := numN_len c.c3 l3
  have l5 := numN_len c.c4 l4
  have l6 := numN_len c.c5 l5
  have l7 := numN_len c.c6 l6
  have l8 := numN_len c.c7 l7
  have l9 := numN_len c.c8 l8
  exact numN_len c.c9 l9
theorem thrF_len {b : By} {k : Nat} (t : Thread) (h : b.length ≤ k) : (thrF b t).length ≤ k + 99 := by
  have := numF_len b t.pc
  have := capsF_len (b := numF b t.pc) (k := k + 9) (capsOf t) (by omega)
  unfold thrF
  omega
theorem lthrP_len (b : By) (l : List Thread) (i : Nat) (hi : i ≤ l.length) : (lthrP b l i).length ≤ b.length + 9 + 99 * i := by
  unfold lthrP
  have key : ∀ (m : List Thread) (c : By), (m.foldl thrF c).length ≤ c.length + 99 * m.length := by
    intro m
    induction m with
    | nil => intro c; simp
    | cons t m ih =>
      intro c
      have h1 := ih (thrF c t)
      have h2 := thrF_len (b := c) t (Nat.le_refl _)
      simp only [List.foldl_cons, List.length_cons]
      omega
  have h1 := key (l.take i) (numF b l.length)
  have h2 := numF_len b l.length
  have h3 : (l.take i).length = i := by simp; omega
  rw [h3] at h1
  omega
theorem gt_at {α : Type} {d : α} {l : List α} {i : Nat} (h : i < l.length) : gt d l i = l[i] := gt_get h
theorem lthrP_step {b : By} {l : List Thread} {i : Nat} (d : Thread) (h : i < l.length) : thrF (lthrP b l i) (gt d l i) = lthrP b l (i + 1) := by
  unfold lthrP
  rw [gt_get h, ← List.take_append_getElem h, List.foldl_append]
  rfl
theorem lthrP_all (b : By) (l : List Thread) : lthrP b l l.length = lthrF b l := by
  unfold lthrP lthrF
  rw [List.take_length]
theorem thrH (y : By × Thread) (hy : thrC.pre y) : thrVC y := by
  have h1 : y.1.length ≤ 1073741624 := hy
  have h2 := numF_len y.1 y.2.pc
  unfold thrVC
  simp only [true_and, and_true]
  exact ⟨⟨by omega⟩, ⟨by omega⟩, rfl⟩
theorem thrOk : Ok thrC := okOf (tab := [numC, capsC]) (fn := Tryz.f55) (orc := thrO) (by simp; exact ⟨numOk, capsOk⟩) (by kernel_rfl) (by kernel_rfl) (fun _ => by exact Nat.le_of_ble_eq_true (by kernel_rfl)) fun y hy => Eq.mp (thrV_eq y) (thrH y hy)
theorem lthrH (y : By × List Thread) (hy : lthrC.pre y) : lthrVC y := by
  have h1 : y.1.length + 99 * y.2.length ≤ 1073741524 := hy
  unfold lthrVC
  simp only [true_and, and_true]
  refine ⟨⟨by omega⟩, ⟨0, rfl, rfl, ⟨Nat.zero_le _⟩⟩, fun x hx => ⟨fun h2 => ⟨?_, h2, ⟨?_⟩, x + 1, ?_, ?_, ⟨?_, ?_⟩⟩, fun h2 => ?_⟩⟩
  · rw [ile_t]; omega
  · have := lthrP_len y.1 y.2 x hx.out
    have := hx.out
    omega
  · rw [ilt_t, llen_eq] at h2
    exact lthrP_step _ (by omega)
  · rw [ilt_t, llen_eq] at h2
    rw [iadd64 (by omega) (by omega)]; rfl
  · rw [ilt_t, llen_eq] at h2; omega
  · rw [ilt_t, llen_eq] at h2; omega
  · rw [ilt_f, llen_eq] at h2
    have : x = y.2.length := by have := hx.out; omega
    rw [this]
    exact lthrP_all _ _
theorem lthrOk : Ok lthrC := okOf (tab := [numC, thrC]) (fn := Tryz.f54) (orc := lthrO) (by simp; exact ⟨numOk, thrOk⟩) (by kernel_rfl) (by kernel_rfl) (fun _ => by exact Nat.le_of_ble_eq_true (by kernel_rfl)) fun y hy => Eq.mp (lthrV_eq y) (lthrH y hy)
end Go.Proofs.YtacolbfofamocaaGreat.sx
/- Contracts of lists of threads as bytes. -/
namespace Go.Proofs.YtacolbfofamocaaGreat.sx
open Go Go.RowKit
noncomputable section
def bestOf (t : Lst) : Caps := ⟨t.c0, t.c1, t.c2, t.c3, t.c4, t.c5, t.c6, t.c7, t.c8, t.c9⟩
def lstF (b : By) (t : Lst) : By := lthrF (capsF (flagF b t.done) (bestOf t)) t.threads
/-- so many bytes a list takes at most -/
def lstW (t : Lst) : Nat := 108 + 99 * t.threads.length
def lstsW (l : List Lst) : Nat := (l.map lstW).sum
def lstsP (b : By) (l : List Lst) (i : Nat) : By := (l.take i).foldl lstF (numF b l.length)
def lstsF (b : By) (l : List Lst) : By := l.foldl lstF (numF b l.length)
def lstC : Con D where
  f := 52
  Y := By × Lst
  inp := fun args s => match args with
    | [a, b] => bnd (rowsOf D s 0 a) fun l => bnd (asAgg b) fun cs => bnd (ofO (dec2 cs)) fun c => .ret ((l : By), (c : Lst))
    | _ => .fail
  pre := fun y => y.1.length + lstW y.2 ≤ 1073741524
  args := fun y => [.list 0 y.1, .agg (encD 2 y.2)]
  heap := fun _ => []
  res := fun y => .grow 0 (lstF y.1 y.2) 0
  heap' := fun _ => [(0, .tok 0 5)]
  nx0 := 0
  nx1 := 1
def lstO (_ : lstC.Y) : Orc D := ⟨[], [], [], [], 1, []⟩
def lstV (y : lstC.Y) : Prop := vcOf [flagC, capsC, lthrC] Tryz.f52 lstC lstO y
def llstC : Con D where
  f := 51
  Y := By × List Lst
  inp := fun args s => match args with
    | [a, b, _] => bnd (rowsOf D s 0 a) fun l => bnd (rowsOf D s 2 b) fun c => .ret ((l : By), (c : List Lst))
    | _ => .fail
  pre := fun y => y.1.length + lstsW y.2 ≤ 1073741424
  args := fun y => [.list 0 y.1, .list 2 y.2, .func (.func 52) [] []]
  heap := fun _ => []
  res := fun y => .grow 0 (lstsF y.1 y.2) 0
  heap' := fun _ => [(0, .tok 0 5)]
  nx0 := 0
  nx1 := 1
def llstO (y : llstC.Y) : Orc D := ⟨[], [], [(58, { X := Nat, keep := [2, 14, 15], sl := fun i => [(7, .grow 0 (lstsP y.1 y.2 i) 0), (16, .int .i64 i)], kp := [], pc := fun _ => [(0, .tok 0 5)], nx := 1, inv := fun i => i ≤ y.2.length, me := fun i => y.2.length - i })], [], 1, []⟩
def llstV (y : llstC.Y) : Prop := vcOf [numC, lstC] Tryz.f51 llstC llstO y
def plC : Con D where
  f := 25
  Y := By × List Lst
  inp := fun args s => match args with
    | [a, b] => bnd (rowsOf D s 0 a) fun l => bnd (rowsOf D s 2 b) fun c => .ret ((l : By), (c : List Lst))
    | _ => .fail
  pre := fun y => y.1.length + lstsW y.2 ≤ 1073741424
  args := fun y => [.list 0 y.1, .list 2 y.2]
  heap := fun _ => []
  res := fun y => .grow 0 (lstsF y.1 y.2) 0
  heap' := fun _ => [(0, .tok 0 5)]
  nx0 := 0
  nx1 := 1
def plO (_ : plC.Y) : Orc D := ⟨[], [], [], [], 1, []⟩
def plV (y : plC.Y) : Prop := vcOf [llstC] Tryz.f25 plC plO y
end
end Go.Proofs.YtacolbfofamocaaGreat.sx
/- Conditions, as a tool printed them; that they are the functions' own the kernel computes. -/
namespace Go.Proofs.YtacolbfofamocaaGreat.sx
open Go Go.RowKit
def lstVC (y : Prod (List UInt8) Lst) : Prop :=
 (Iv ((List.length y.1 : Nat) ≤ 1073741824)) ∧
 (@Eq (List UInt8) y.1 y.1) ∧
 (@Eq Bool (Lst.done y.2) (Lst.done y.2)) ∧
 (Iv ((List.length (flagF y.1 (Lst.done y.2)) : Nat) ≤ 1073741724)) ∧
 (@Eq (List UInt8) (flagF y.1 (Lst.done y.2)) (flagF y.1 (Lst.done y.2))) ∧
 (@Eq Int (Lst.c0 y.2) (Lst.c0 y.2)) ∧
 (@Eq Int (Lst.c1 y.2) (Lst.c1 y.2)) ∧
 (@Eq Int (Lst.c2 y.2) (Lst.c2 y.2)) ∧
 (@Eq Int (Lst.c3 y.2) (Lst.c3 y.2)) ∧
 (@Eq Int (Lst.c4 y.2) (Lst.c4 y.2)) ∧
 (@Eq Int (Lst.c5 y.2) (Lst.c5 y.2)) ∧
 (@Eq Int (Lst.c6 y.2) (Lst.c6 y.2)) ∧
 (@Eq Int (Lst.c7 y.2) (Lst.c7 y.2)) ∧
 (@Eq Int (Lst.c8 y.2) (Lst.c8 y.2)) ∧
 (@Eq Int (Lst.c9 y.2) (Lst.c9 y.2)) ∧
 (@Eq Bool (Lst.done y.2) (Lst.done y.2)) ∧
 (@Eq Int (Lst.c0 y.2) (Lst.c0 y.2)) ∧
 (@Eq Int (Lst.c1 y.2) (Lst.c1 y.2)) ∧
 (@Eq Int (Lst.c2 y.2) (Lst.c2 y.2)) ∧
 (@Eq Int (Lst.c3 y.2) (Lst.c3 y.2)) ∧
 (@Eq Int (Lst.c4 y.2) (Lst.c4 y.2)) ∧
 (@Eq Int (Lst.c5 y.2) (Lst.c5 y.2)) ∧
 (@Eq Int (Lst.c6 y.2) (Lst.c6 y.2)) ∧
 (@Eq Int (Lst.c7 y.2) (Lst.c7 y.2)) ∧
 (@Eq Int (Lst.c8 y.2) (Lst.c8 y.2)) ∧
 (@Eq Int (Lst.c9 y.2) (Lst.c9 y.2)) ∧
 (@Eq Int (Lst.c0 y.2) (Lst.c0 y.2)) ∧
 (@Eq Int (Lst.c1 y.2) (Lst.c1 y.2)) ∧
 (@Eq Int (Lst.c2 y.2) (Lst.c2 y.2)) ∧
 (@Eq Int (Lst.c3 y.2) (Lst.c3 y.2)) ∧
 (@Eq Int (Lst.c4 y.2) (Lst.c4 y.2)) ∧
 (@Eq Int (Lst.c5 y.2) (Lst.c5 y.2)) ∧
 (@Eq Int (Lst.c6 y.2) (Lst.c6 y.2)) ∧
 (@Eq Int (Lst.c7 y.2) (Lst.c7 y.2)) ∧
 (@Eq Int (Lst.c8 y.2) (Lst.c8 y.2)) ∧
 (@Eq Int (Lst.c9 y.2) (Lst.c9 y.2)) ∧
 (Iv (((List.length (capsF (flagF y.1 (Lst.done y.2)) (Caps.mk (Lst.c0 y.2) (Lst.c1 y.2) (Lst.c2 y.2) (Lst.c3 y.2) (Lst.c4 y.2) (Lst.c5 y.2) (Lst.c6 y.2) (Lst.c7 y.2) (Lst.c8 y.2) (Lst.c9 y.2))) : Nat) + ((99 : Nat) * (List.length (Lst.threads y.2))) : Nat) ≤ 1073741524)) ∧
 (@Eq (List UInt8) (capsF (flagF y.1 (Lst.done y.2)) (Caps.mk (Lst.c0 y.2) (Lst.c1 y.2) (Lst.c2 y.2) (Lst.c3 y.2) (Lst.c4 y.2) (Lst.c5 y.2) (Lst.c6 y.2) (Lst.c7 y.2) (Lst.c8 y.2) (Lst.c9 y.2))) (capsF (flagF y.1 (Lst.done y.2)) (Caps.mk (Lst.c0 y.2) (Lst.c1 y.2) (Lst.c2 y.2) (Lst.c3 y.2) (Lst.c4 y.2) (Lst.c5 y.2) (Lst.c6 y.2) (Lst.c7 y.2) (Lst.c8 y.2) (Lst.c9 y.2)))) ∧
 (@Eq (List Thread) (Lst.threads y.2) (Lst.threads y.2)) ∧
 (@Eq (List UInt8) (lthrF (capsF (flagF y.1 (Lst.done y.2)) (Caps.mk (Lst.c0 y.2) (Lst.c1 y.2) (Lst.c2 y.2) (Lst.c3 y.2) (Lst.c4 y.2) (Lst.c5 y.2) (Lst.c6 y.2) (Lst.c7 y.2) (Lst.c8 y.2) (Lst.c9 y.2))) (Lst.threads y.2)) (lstF y.1 y.2)) ∧
 True
theorem lstV_eq : ∀ y, lstVC y = lstV y := fun y => by kernel_rfl
def llstVC (y : Prod (List UInt8) (List Lst)) : Prop :=
 (Iv ((List.length y.1 : Nat) ≤ 1073741824)) ∧
 (@Eq (List UInt8) y.1 y.1) ∧
 (@Eq Int (llen y.2) (llen y.2)) ∧
 (
  ∃ z : Nat,
   (@Eq (List Lst) y.2 y.2) ∧
   (@Eq Int (llen y.2) (llen y.2)) ∧
   (@Eq (List UInt8) (numF y.1 (llen y.2)) (lstsP y.1 y.2 z)) ∧
   (@Eq Int (0 : Int) ((z : Nat) : Int)) ∧
   (Iv ((z : Nat) ≤ (List.length y.2)))) ∧
 (
  ∀ x : Nat,
   (Iv ((x : Nat) ≤ (List.length y.2))) →
    (
     ((ilt ((x : Nat) : Int) (llen y.2)) = true) →
      ((ile (0 : Int) ((x : Nat) : Int)) = true) ∧
      ((ilt ((x : Nat) : Int) (llen y.2)) = true) ∧
      (Iv (((List.length (lstsP y.1 y.2 x) : Nat) + (lstW (Lst.mk (Lst.done (gt (Lst.mk Bool.false (0 : Int) (0 : Int) (0 : Int) (0 : Int) (0 : Int) (0 : Int) (0 : Int) (0 : Int) (0 : Int) (0 : Int) ([] : List Thread)) y.2 (Int.toNat ((x : Nat) : Int)))) (Lst.c0 (gt (Lst.mk Bool.false (0 : Int) (0 : Int) (0 : Int) (0 : Int) (0 : Int) (0 : Int) (0 : Int) (0 : Int) (0 : Int) (0 : Int) ([] : List Thread)) y.2 (Int.toNat ((x : Nat) : Int)))) (Lst.c1 (gt (Lst.mk Bool.false (0 : Int) (0 : Int) (0 : Int) (0 : Int) (0 : Int) (0 : Int) (0 : Int) (0 : Int) (0 : Int) (0 : Int) ([] : List Thread)) y.2 (Int.toNat ((x : Nat) : Int)))) (Lst.c2 (gt (Lst.mk Bool.false (0 : Int) (0 : Int) (0 : Int) (0 : Int) (0 : Int) (0 : Int) (0 : Int) (0 : Int) (0 : Int) (0 : Int) ([] : List Thread)) y.2 (Int.toNat ((x : Nat) : Int)))) (Lst.c3 (gt (Lst.mk Bool.false (0 : Int) (0 : Int) (0 : Int) (0 : Int) (0 : Int) (0 : Int) (0 : Int) (0 : Int) (0 : Int) (0 : Int) ([] : List Thread)) y.2 (Int.toNat ((x : Nat) : Int)))) (Lst.c4 (gt (Lst.mk Bool.false (0 : Int) (0 : Int) (0 : Int) (0 : Int) (0 : Int) (0 : Int) (0 : Int) (0 : Int) (0 : Int) (0 : Int) ([] : List Thread)) y.2 (Int.toNat ((x : Nat) : Int)))) (Lst.c5 (gt (Lst.mk Bool.false (0 : Int) (0 : Int) (0 : Int) (0 : Int) (0 : Int) (0 : Int) (0 : Int) (0 : Int) (0 : Int) (0 : Int) ([] : List Thread)) y.2 (Int.toNat ((x : Nat) : Int)))) (Lst.c6 (gt (Lst.mk Bool.false (0 : Int) (0 : Int) (0 : Int) (0 : Int) (0 : Int) (0 : Int) (0 : Int) (0 : Int) (0 : Int) (0 : Int) ([] : List Thread)) y.2 (Int.toNat ((x : Nat) : Int)))) (Lst.c7 (gt (Lst.mk Bool.false (0 : Int) (0 : Int) (0 : Int) (0 : Int) (0 : Int) (0 : Int) (0 : Int) (0 : Int) (0 : Int) (0 : Int) ([] : List Thread)) y.2 (Int.toNat ((x : Nat) : Int)))) (Lst.c8 (gt (Lst.mk Bool.false (0 : Int) (0 : Int) (0 : Int) (0 : Int) (0 : Int) (0 : Int) (0 : Int) (0 : Int) (0 : Int) (0 : Int) ([] : List Thread)) y.2 (Int.toNat ((x : Nat) : Int)))) (Lst.c9 (gt (Lst.mk Bool.false (0 : Int) (0 : Int) (0 : Int) (0 : Int) (0 : Int) (0 : Int) (0 : Int) (0 : Int) (0 : Int) (0 : Int) ([] : List Thread)) y.2 (Int.toNat ((x : Nat) : Int)))) (Lst.threads (gt (Lst.mk Bool.false (0 : Int) (0 : Int) (0 : Int) (0 : Int) (0 : Int) (0 : Int) (0 : Int) (0 : Int) (0 : Int) (0 : Int) ([] : List Thread)) y.2 (Int.toNat ((x : Nat) : Int)))))) : Nat) ≤ 1073741524)) ∧
      (@Eq (List UInt8) (lstsP y.1 y.2 x) (lstsP y.1 y.2 x)) ∧
      (@Eq Bool (Lst.done (gt (Lst.mk Bool.false (0 : Int) (0 : Int) (0 : Int) (0 : Int) (0 : Int) (0 : Int) (0 : Int) (0 : Int) (0 : Int) (0 : Int) ([] : List Thread)) y.2 (Int.toNat ((x : Nat) : Int)))) (Lst.done (gt (Lst.mk Bool.false (0 : Int) (0 : Int) (0 : Int) (0 : Int) (0 : Int) (0 : Int) (0 : Int) (0 : Int) (0 : Int) (0 : Int) ([] : List Thread)) y.2 (Int.toNat ((x : Nat) : Int))))) ∧
      (@Eq Int (Lst.c0 (gt (Lst.mk Bool.false (0 : Int) (0 : Int) (0 : Int) (0 : Int) (0 : Int) (0 : Int) (0 : Int) (0 : Int) (0 : Int) (0 : Int) ([] : List Thread)) y.2 (Int.toNat ((x : Nat) : Int)))) (Lst.c0 (gt (Lst.mk Bool.false (0 : Int) (0 : Int) (0 : Int) (0 : Int) (0 : Int) (0 : Int) (0 : Int) (0 : Int) (0 : Int) (0 : Int) ([] : List Thread)) y.2 (Int.toNat ((x : Nat) : Int))))) ∧
      (@Eq Int (Lst.c1 (gt (Lst.mk Bool.false (0 : Int) (0 : Int) (0 : Int) (0 : Int) (0 : Int) (0 : Int) (0 : Int) (0 : Int) (0 : Int) (0 : Int) ([] : List Thread)) y.2 (Int.toNat ((x : Nat) : Int)))) (Lst.c1 (gt (Lst.mk Bool.false (0 : Int) (0 : Int) (0 : Int) (0 : Int) (0 : Int) (0 : Int) (0 : Int) (0 : Int) (0 : Int) (0 : Int) ([] : List Thread)) y.2 (Int.toNat ((x : Nat) : Int))))) ∧
      (@Eq Int (Lst.c2 (gt (Lst.mk Bool.false (0 : Int) (0 : Int) (0 : Int) (0 : Int) (0 : Int) (0 : Int) (0 : Int) (0 : Int) (0 : Int) (0 : Int) ([] : List Thread)) y.2 (Int.toNat ((x : Nat) : Int)))) (Lst.c2 (gt (Lst.mk Bool.false (0 : Int) (0 : Int) (0 : Int) (0 : Int) (0 : Int) (0 : Int) (0 : Int) (0 : Int) (0 : Int) (0 : Int) ([] : List Thread)) y.2 (Int.toNat ((x : Nat) : Int))))) ∧
      (@Eq Int (Lst.c3 (gt (Lst.mk Bool.false (0 : Int) (0 : Int) (0 : Int) (0 : Int) (0 : Int) (0 : Int) (0 : Int) (0 : Int) (0 : Int) (0 : Int) ([] : List Thread)) y.2 (Int.toNat ((x : Nat) : Int)))) (Lst.c3 (gt (Lst.mk Bool.false (0 : Int) (0 : Int) (0 : Int) (0 : Int) (0 : Int) (0 : Int) (0 : Int) (0 : Int) (0 : Int) (0 : Int) ([] : List Thread)) y.2 (Int.toNat ((x : Nat) : Int))))) ∧
      (@Eq Int (Lst.c4 (gt (Lst.mk Bool.false (0 : Int) (0 : Int) (0 : Int) (0 : Int) (0 : Int) (0 : Int) (0 : Int) (0 : Int) (0 : Int) (0 : Int) ([] : List Thread)) y.2 (Int.toNat ((x : Nat) : Int)))) (Lst.c4 (gt (Lst.mk Bool.false (0 : Int) (0 : Int) (0 : Int) (0 : Int) (0 : Int) (0 : Int) (0 : Int) (0 : Int) (0 : Int) (0 : Int) ([] : List Thread)) y.2 (Int.toNat ((x : Nat) : Int))))) ∧
      (@Eq Int (Lst.c5 (gt (Lst.mk Bool.false (0 : Int) (0 : Int) (0 : Int) (0 : Int) (0 : Int) (0 : Int) (0 : Int) (0 : Int) (0 : Int) (0 : Int) ([] : List Thread)) y.2 (Int.toNat ((x : Nat) : Int)))) (Lst.c5 (gt (Lst.mk Bool.false (0 : Int) (0 : Int) (0 : Int) (0 : Int) (0 : Int) (0 : Int) (0 : Int) (0 : Int) (0 : Int) (0 : Int) ([] : List Thread)) y.2 (Int.toNat ((x : Nat) : Int))))) ∧
      (@Eq Int (Lst.c6 (gt (Lst.mk Bool.false (0 : Int) (0 : Int) (0 : Int) (0 : Int) (0 : Int) (0 : Int) (0 : Int) (0 : Int) (0 : Int) (0 : Int) ([] : List Thread)) y.2 (Int.toNat ((x : Nat) : Int)))) (Lst.c6 (gt (Lst.mk Bool.false (0 : Int) (0 : Int) (0 : Int) (0 : Int) (0 : Int) (0 : Int) (0 : Int) (0 : Int) (0 : Int) (0 : Int) ([] : List Thread)) y.2 (Int.toNat ((x : Nat) : Int))))) ∧
      (@Eq Int (Lst.c7 (gt (Lst.mk Bool.false (0 : Int) (0 : Int) (0 : Int) (0 : Int) (0 : Int) (0 : Int) (0 : Int) (0 : Int) (0 : Int) (0 : Int) ([] : List Thread)) y.2 (Int.toNat ((x : Nat) : Int)))) (Lst.c7 (gt (Lst.mk Bool.false (0 : Int) (0 : Int) (0 : Int) (0 : Int) (0 : Int) (0 : Int) (0 : Int) (0 : Int) (0 : Int) (0 : Int) ([] : List Thread)) y.2 (Int.toNat ((x : Nat) : Int))))) ∧
      (@Eq Int (Lst.c8 (gt (Lst.mk Bool.false (0 : Int) (0 : Int) (0 : Int) (0 : Int) (0 : Int) (0 : Int) (0 : Int) (0 : Int) (0 : Int) (0 : Int) ([] : List Thread)) y.2 (Int.toNat ((x : Nat) : Int)))) (Lst.c8 (gt (Lst.mk Bool.false (0 : Int) (0 : Int) (0 : Int) (0 : Int) (0 : Int) (0 : Int) (0 : Int) (0 : Int) (0 : Int) (0 : Int) ([] : List Thread)) y.2 (Int.toNat ((x : Nat) : Int))))) ∧
      (@Eq Int (Lst.c9 (gt (Lst.mk Bool.false (0 : Int) (0 : Int) (0 : Int) (0 : Int) (0 : Int) (0 : Int) (0 : Int) (0 : Int) (0 : Int) (0 : Int) ([] : List Thread)) y.2 (Int.toNat ((x : Nat) : Int)))) (Lst.c9 (gt (Lst.mk Bool.false (0 : Int) (0 : Int) (0 : Int) (0 : Int) (0 : Int) (0 : Int) (0 : Int) (0 : Int) (0 : Int) (0 : Int) ([] : List Thread)) y.2 (Int.toNat ((x : Nat) : Int))))) ∧
      (@Eq (List Thread) (Lst.threads (gt (Lst.mk Bool.false (0 : Int) (0 : Int) (0 : Int) (0 : Int) (0 : Int) (0 : Int) (0 : Int) (0 : Int) (0 : Int) (0 : Int) ([] : List Thread)) y.2 (Int.toNat ((x : Nat) : Int)))) (Lst.threads (gt (Lst.mk Bool.false (0 : Int) (0 : Int) (0 : Int) (0 : Int) (0 : Int) (0 : Int) (0 : Int) (0 : Int) (0 : Int) (0 : Int) ([] : List Thread)) y.2 (Int.toNat ((x : Nat) : Int))))) ∧
      ∃ z : Nat,
       (@Eq (List Lst) y.2 y.2) ∧
       (@Eq Int (llen y.2) (llen y.2)) ∧
       (@Eq (List UInt8) (lstF (lstsP y.1 y.2 x) (Lst.mk (Lst.done (gt (Lst.mk Bool.false (0 : Int) (0 : Int) (0 : Int) (0 : Int) (0 : Int) (0 : Int) (0 : Int) (0 : Int) (0 : Int) (0 : Int) ([] : List Thread)) y.2 (Int.toNat ((x : Nat) : Int)))) (Lst.c0 (gt (Lst.mk Bool.false (0 : Int) (0 : Int) (0 : Int) (0 : Int) (0 : Int) (0 : Int) (0 : Int) (0 : Int) (0 : Int) (0 : Int) ([] : List Thread)) y.2 (Int.toNat ((x : Nat) : Int)))) (Lst.c1 (gt (Lst.mk Bool.false (0 : Int) (0 : Int) (0 : Int) (0 : Int) (0 : Int) (0 : Int) (0 : Int) (0 : Int) (0 : Int) (0 : Int) ([] : List Thread)) y.2 (Int.toNat ((x : Nat) : Int)))) (Lst.c2 (gt (Lst.mk Bool.false (0 : Int) (0 : Int) (0 : Int) (0 : Int) (0 : Int) (0 : Int) (0 : Int) (0 : Int) (0 : Int) (0 : Int) ([] : List Thread)) y.2 (Int.toNat ((x : Nat) : Int)))) (Lst.c3 (gt (Lst.mk Bool.false (0 : Int) (0 : Int) (0 : Int) (0 : Int) (0 : Int) (0 : Int) (0 : Int) (0 : Int) (0 : Int) (0 : Int) ([] : List Thread)) y.2 (Int.toNat ((x : Nat) : Int)))) (Lst.c4 (gt (Lst.mk Bool.false (0 : Int) (0 : Int) (0 : Int) (0 : Int) (0 : Int) (0 : Int) (0 : Int) (0 : Int) (0 : Int) (0 : Int) ([] : List Thread)) y.2 (Int.toNat ((x : Nat) : Int)))) (Lst.c5 (gt (Lst.mk Bool.false (0 : Int) (0 : Int) (0 : Int) (0 : Int) (0 : Int) (0 : Int) (0 : Int) (0 : Int) (0 : Int) (0 : Int) ([] : List Thread)) y.2 (Int.toNat ((x : Nat) : Int)))) (Lst.c6 (gt (Lst.mk Bool.false (0 : Int) (0 : Int) (0 : Int) (0 : Int) (0 : Int) (0 : Int) (0 : Int) (0 : Int) (0 : Int) (0 : Int) ([] : List Thread)) y.2 (Int.toNat ((x : Nat) : Int)))) (Lst.c7 (gt (Lst.mk Bool.false (0 : Int) (0 : Int) (0 : Int) (0 : Int) (0 : Int) (0 : Int) (0 : Int) (0 : Int) (0 : Int) (0 : Int) ([] : List Thread)) y.2 (Int.toNat ((x : Nat) : Int)))) (Lst.c8 (gt (Lst.mk Bool.false (0 : Int) (0 : Int) (0 : Int) (0 : Int) (0 : Int) (0 : Int) (0 : Int) (0 : Int) (0 : Int) (0 : Int) ([] : List Thread)) y.2 (Int.toNat ((x : Nat) : Int)))) (Lst.c9 (gt (Lst.mk Bool.false (0 : Int) (0 : Int) (0 : Int) (0 : Int) (0 : Int) (0 : Int) (0 : Int) (0 : Int) (0 : Int) (0 : Int) ([] : List Thread)) y.2 (Int.toNat ((x : Nat) : Int)))) (Lst.threads (gt (Lst.mk Bool.false (0 : Int) (0 : Int) (0 : Int) (0 : Int) (0 : Int) (0 : Int) (0 : Int) (0 : Int) (0 : Int) (0 : Int) ([] : List Thread)) y.2 (Int.toNat ((x : Nat) : Int)))))) (lstsP y.1 y.2 z)) ∧
       (@Eq Int (iadd IntKind.i64 ((x : Nat) : Int) (1 : Int)) ((z : Nat) : Int)) ∧
       (Iv (((z : Nat) ≤ (List.length y.2)) ∧ ((List.length y.2 : Nat) - z : Nat) < ((List.length y.2 : Nat) - x)))) ∧
    (
     ((ilt ((x : Nat) : Int) (llen y.2)) = false) →
      (@Eq (List UInt8) (lstsP y.1 y.2 x) (lstsF y.1 y.2)) ∧
      True))
theorem llstV_eq : ∀ y, llstVC y = llstV y := fun y => by kernel_rfl
def plVC (y : Prod (List UInt8) (List Lst)) : Prop :=
 (Iv (((List.length y.1 : Nat) + (lstsW y.2) : Nat) ≤ 1073741424)) ∧
 (@Eq (List UInt8) y.1 y.1) ∧
 (@Eq (List Lst) y.2 y.2) ∧
 (@Eq (List UInt8) (lstsF y.1 y.2) (lstsF y.1 y.2)) ∧
 True
theorem plV_eq : ∀ y, plVC y = plV y := fun y => by kernel_rfl
end Go.Proofs.YtacolbfofamocaaGreat.sx
/- Lists of threads as bytes: the contracts hold. -/
namespace Go.Proofs.YtacolbfofamocaaGreat.sx
open Go Go.RowKit
set_option maxRecDepth 100000
theorem flagF_len (b : By) (f : Bool) : (flagF b f).length ≤ b.length + 9 := numF_len b _
theorem lthrF_len (b : By) (l : List Thread) : (lthrF b l).length ≤ b.length + 9 + 99 * l.length := by
  have := lthrP_len b l l.length (Nat.le_refl _)
  rw [lthrP_all] at this
  exact this
theorem lstF_len (b : By) (t : Lst) : (lstF b t).length ≤ b.length + lstW t := by
  have h1 := flagF_len b t.done
  have h2 := capsF_len (b := flagF b t.done) (bestOf t) h1
  have h3 := lthrF_len (capsF (flagF b t.done) (bestOf t)) t.threads
  unfold lstF lstW
  omega
theorem lstsP_len (b : By) (l : List Lst) (i : Nat) : (lstsP b l i).length ≤ b.length + 9 + lstsW (l.take i) := by
  unfold lstsP lstsW
  have key : ∀ (m : List Lst) (c : By), (m.foldl lstF c).length ≤ c.length + (m.map lstW).sum := by
    intro m
    induction m with
    | nil => intro c; simp
    | cons t m ih =>
      intro c
      have h1 := ih (lstF c t)
      have h2 := lstF_len c t
      simp only [List.foldl_cons, List.map_cons, List.sum_cons]
      omega
  have h1 := key (l.take i) (numF b l.length)
  have h2 := numF_len b l.length
  omega
theorem lstsW_take (l : List Lst) {i : Nat} (h : i < l.length) : lstsW (l.take i) + lstW l[i] ≤ lstsW l := by
  have e2 : l = l.take i ++ l[i] :: l.drop (i + 1) := by rw [← List.drop_eq_getElem_cons h, List.take_append_drop]
  have e : lstsW l = lstsW (l.take i ++ l[i] :: l.drop (i + 1)) := congrArg lstsW e2
  rw [e]
  unfold lstsW
  rw [List.map_append, List.sum_append, List.map_cons, List.sum_cons]
  omega
theorem lstsP_step {b : By} {l : List Lst} {i : Nat} (d : Lst) (h : i < l.length) : lstF (lstsP b l i) (gt d l i) = lstsP b l (i + 1) := by
  unfold lstsP
  rw [gt_get h, ← List.take_append_getElem h, List.foldl_append]
  rfl
theorem lstsP_all (b : By) (l : List Lst) : lstsP b l l.length = lstsF b l := by
  unfold lstsP lstsF
  rw [List.take_length]
theorem lstH (y : By × Lst) (hy : lstC.pre y) : lstVC y := by
  have h0 : y.1.length + lstW y.2 ≤ 1073741524 := hy
  unfold lstW at h0
  have h1 := flagF_len y.1 y.2.done
  have h2 := capsF_len (b := flagF y.1 y.2.done) (bestOf y.2) h1
  unfold lstVC
  simp only [true_and, and_true]
  refine ⟨⟨by omega⟩, ⟨by omega⟩, ⟨?_⟩, rfl⟩
  have h3 : (capsF (flagF y.1 y.2.done) (bestOf y.2)).length + 99 * y.2.threads.length ≤ 1073741524 := by omega
  exact h3
theorem lstOk : Ok lstC := okOf (tab := [flagC, capsC, lthrC]) (fn := Tryz.f52) (orc := lstO) (by simp; exact ⟨flagOk, capsOk, lthrOk⟩) (by kernel_rfl) (by kernel_rfl) (fun _ => by exact Nat.le_of_ble_eq_true (by kernel_rfl)) fun y hy => Eq.mp (lstV_eq y) (lstH y hy)
theorem llstH (y : By × List Lst) (hy : llstC.pre y) : llstVC y := by
  have h1 : y.1.length + lstsW y.2 ≤ 1073741424 := hy
  have hn : y.2.length ≤ lstsW y.2 := by
    unfold lstsW
    generalize y.2 = l
    induction l with
    | nil => simp
    | cons t l ih =>
      simp only [List.length_cons, List.map_cons, List.sum_cons]
      have : 1 ≤ lstW t := by unfold lstW; omega
      omega
  unfold llstVC
  simp only [true_and, and_true]
  refine ⟨⟨by omega⟩, ⟨0, rfl, rfl, ⟨Nat.zero_le _⟩⟩, fun x hx => ⟨fun h2 => ⟨?_, h2, ⟨?_⟩, x + 1, ?_, ?_, ⟨?_, ?_⟩⟩, fun h2 => ?_⟩⟩
  · rw [ile_t]; omega
  · rw [ilt_t, llen_eq] at h2
    have hx2 : x < y.2.length := by omega
    have h3 := lstsP_len y.1 y.2 x
    have h4 := lstsW_take y.2 hx2
    show (lstsP y.1 y.2 x).length + lstW (gt _ y.2 x) ≤ 1073741524
    rw [gt_get hx2]
    omega
  · rw [ilt_t, llen_eq] at h2
    exact lstsP_step _ (by omega)
  · rw [ilt_t, llen_eq] at h2
    rw [iadd64 (by omega) (by omega)]; rfl
  · rw [ilt_t, llen_eq] at h2; omega
  · rw [ilt_t, llen_eq] at h2; omega
  · rw [ilt_f, llen_eq] at h2
    have : x = y.2.length := by have := hx.out; omega
    rw [this]
    exact lstsP_all _ _
theorem llstOk : Ok llstC := okOf (tab := [numC, lstC]) (fn := Tryz.f51) (orc := llstO) (by simp; exact ⟨numOk, lstOk⟩) (by kernel_rfl) (by kernel_rfl) (fun _ => by exact Nat.le_of_ble_eq_true (by kernel_rfl)) fun y hy => Eq.mp (llstV_eq y) (llstH y hy)
theorem plH (y : By × List Lst) (hy : plC.pre y) : plVC y := by
  have h1 : y.1.length + lstsW y.2 ≤ 1073741424 := hy
  unfold plVC
  simp only [and_true]
  exact ⟨h1⟩
theorem plOk : Ok plC := okOf (tab := [llstC]) (fn := Tryz.f25) (orc := plO) (by simp; exact llstOk) (by kernel_rfl) (by kernel_rfl) (fun _ => by exact Nat.le_of_ble_eq_true (by kernel_rfl)) fun y hy => Eq.mp (plV_eq y) (plH y hy)
end Go.Proofs.YtacolbfofamocaaGreat.sx
