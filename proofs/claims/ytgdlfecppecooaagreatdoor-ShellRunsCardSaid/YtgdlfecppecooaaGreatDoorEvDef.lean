/- An evaluator of closed calls: what a call does on a known piece of memory, whatever the orders and the capacities that are drawn. The text, made for the kernel. -/
import Derived.Orders
import Derived.Below
set_option linter.all false
namespace Go.Proofs.YtgdlfecppecooaaGreatDoor.ev
open Go
noncomputable section
/-! ### Words -/
def bnd {α β : Type} (x : Option α) (f : α → Option β) : Option β := Option.rec (motive := fun _ => Option β) none f x
def bnd2 {α β γ : Type} (x : Option (α × β)) (f : α → β → Option γ) : Option γ := Option.rec (motive := fun _ => Option γ) none (fun p => Prod.rec (motive := fun _ => Option γ) f p) x
def bB {β : Type} (b : Bool) (x : Option β) : Option β := Bool.rec (motive := fun _ => Option β) none x b
def bE {β : Type} (b : Bool) (x y : Option β) : Option β := Bool.rec (motive := fun _ => Option β) y x b
/-! ### Tries -/
inductive T (α : Type) where
  | nil
  | node (v : Option α) (l r : T α)
def T.get {α : Type} (t : T α) : Nat → Option α :=
  T.rec (motive := fun _ => Nat → Option α) (fun _ => none)
    (fun v _ _ gl gr k => Nat.rec (motive := fun _ => Option α) v
      (fun k _ => Nat.rec (motive := fun _ => Option α) (gl (Nat.div k (nat_lit 2))) (fun _ _ => gr (Nat.div k (nat_lit 2))) (Nat.mod k (nat_lit 2))) k) t
def T.mk1 {α : Type} (n : Nat) : Nat → Option α → Option (T α) :=
  Nat.rec (motive := fun _ => Nat → Option α → Option (T α)) (fun _ _ => none)
    (fun _ ih k a => Nat.rec (motive := fun _ => Option (T α)) (some (.node a .nil .nil))
      (fun k _ => Nat.rec (motive := fun _ => Option (T α)) (bnd (ih (Nat.div k (nat_lit 2)) a) fun l => some (.node none l .nil))
        (fun _ _ => bnd (ih (Nat.div k (nat_lit 2)) a) fun r => some (.node none .nil r)) (Nat.mod k (nat_lit 2))) k) n
def T.put {α : Type} (t : T α) : Nat → Option α → Option (T α) :=
  T.rec (motive := fun _ => Nat → Option α → Option (T α)) (fun k a => T.mk1 (nat_lit 64) k a)
    (fun v l r pl pr k a => Nat.rec (motive := fun _ => Option (T α)) (some (.node a l r))
      (fun k _ => Nat.rec (motive := fun _ => Option (T α)) (bnd (pl (Nat.div k (nat_lit 2)) a) fun l' => some (.node v l' r))
        (fun _ _ => bnd (pr (Nat.div k (nat_lit 2)) a) fun r' => some (.node v l r')) (Nat.mod k (nat_lit 2))) k) t
/-! ### Numbers -/
def iEq (x y : Int) : Bool := match x with
  | .ofNat a => match y with
    | .ofNat b => Nat.beq a b
    | .negSucc _ => false
  | .negSucc a => match y with
    | .ofNat _ => false
    | .negSucc b => Nat.beq a b
def iLt (x y : Int) : Bool := match x with
  | .ofNat a => match y with
    | .ofNat b => Nat.ble (Nat.succ a) b
    | .negSucc _ => false
  | .negSucc a => match y with
    | .ofNat _ => true
    | .negSucc b => Nat.ble (Nat.succ b) a
def kIx : IntKind → Nat
  | .i8 => nat_lit 0 | .i16 => nat_lit 1 | .i32 => nat_lit 2 | .i64 => nat_lit 3 | .u8 => nat_lit 4 | .u16 => nat_lit 5 | .u32 => nat_lit 6 | .u64 => nat_lit 7
def kEq (a b : IntKind) : Bool := Nat.beq (kIx a) (kIx b)
def kHi : IntKind → Nat
  | .i8 => nat_lit 127 | .i16 => nat_lit 32767 | .i32 => nat_lit 2147483647 | .i64 => nat_lit 9223372036854775807
  | .u8 => nat_lit 255 | .u16 => nat_lit 65535 | .u32 => nat_lit 4294967295 | .u64 => nat_lit 18446744073709551615
/-- how many negative numbers there are -/
def kLo : IntKind → Nat
  | .i8 => nat_lit 128 | .i16 => nat_lit 32768 | .i32 => nat_lit 2147483648 | .i64 => nat_lit 9223372036854775808
  | .u8 => nat_lit 0 | .u16 => nat_lit 0 | .u32 => nat_lit 0 | .u64 => nat_lit 0
def kMod : IntKind → Nat
  | .i8 => nat_lit 256 | .u8 => nat_lit 256 | .i16 => nat_lit 65536 | .u16 => nat_lit 65536 | .i32 => nat_lit 4294967296 | .u32 => nat_lit 4294967296
  | .i64 => nat_lit 18446744073709551616 | .u64 => nat_lit 18446744073709551616
def wrapA (k : IntKind) (n : Int) : Int := match n with
  | .ofNat m => Bool.rec (motive := fun _ => Int) (k.wrap (.ofNat m)) (.ofNat m) (Nat.ble m (kHi k))
  | .negSucc m => Bool.rec (motive := fun _ => Int) (k.wrap (.negSucc m)) (.negSucc m) (Nat.ble (Nat.succ m) (kLo k))
/-- a number made before it is used -/
def mkI (k : IntKind) (n : Int) : Option Value := match n with
  | .ofNat m => Nat.rec (motive := fun _ => Option Value) (some (.int k (.ofNat (nat_lit 0)))) (fun m _ => some (.int k (.ofNat (Nat.succ m)))) m
  | .negSucc m => Nat.rec (motive := fun _ => Option Value) (some (.int k (.negSucc (nat_lit 0)))) (fun m _ => some (.int k (.negSucc (Nat.succ m)))) m
def mkN (m : Nat) : Option Value := Nat.rec (motive := fun _ => Option Value) (some (.int .i64 (.ofNat (nat_lit 0)))) (fun m _ => some (.int .i64 (.ofNat (Nat.succ m)))) m
def toN (k : IntKind) (n : Int) : Nat := match n with
  | .ofNat m => Nat.mod m (kMod k)
  | .negSucc m => Nat.sub (Nat.sub (kMod k) (nat_lit 1)) (Nat.mod m (kMod k))
def bitA (k : IntKind) (n : Nat) : Option Value := mkI k (wrapA k (.ofNat n))
def intA (op : BinOp) (k : IntKind) (x y : Int) : Option Value := match op with
  | .add => mkI k (wrapA k (Int.add x y))
  | .sub => mkI k (wrapA k (Int.sub x y))
  | .mul => mkI k (wrapA k (Int.mul x y))
  | .quo => bE (iEq y (.ofNat (nat_lit 0))) none (mkI k (wrapA k (Int.tdiv x y)))
  | .rem => bE (iEq y (.ofNat (nat_lit 0))) none (mkI k (Int.tmod x y))
  | .and => bitA k (Nat.land (toN k x) (toN k y))
  | .or => bitA k (Nat.lor (toN k x) (toN k y))
  | .xor => bitA k (Nat.xor (toN k x) (toN k y))
  | .eql => some (.bool (iEq x y))
  | .neq => some (.bool (Bool.not (iEq x y)))
  | .lss => some (.bool (iLt x y))
  | .leq => some (.bool (Bool.not (iLt y x)))
  | .gtr => some (.bool (iLt y x))
  | .geq => some (.bool (Bool.not (iLt x y)))
  | _ => none
def minN (a b : Nat) : Nat := Bool.rec (motive := fun _ => Nat) b a (Nat.ble a b)
def shlA (k : IntKind) (x : Int) (m : Nat) : Option Value := mkI k (wrapA k (Int.mul x (.ofNat (Nat.pow (nat_lit 2) (minN m k.bits)))))
def shrA (k : IntKind) (x : Int) (m : Nat) : Option Value := match x with
  | .ofNat x => mkI k (.ofNat (Nat.div x (Nat.pow (nat_lit 2) (minN m k.bits))))
  | .negSucc _ => none
def binInt (op : BinOp) (k k' : IntKind) (x y : Int) : Option Value := match op with
  | .shl => match y with
    | .ofNat m => shlA k x m
    | .negSucc _ => none
  | .shr => match y with
    | .ofNat m => shrA k x m
    | .negSucc _ => none
  | op => bB (kEq k k') (intA op k x y)
/-! ### Lists -/
def bEq (x : List UInt8) : List UInt8 → Bool :=
  List.rec (motive := fun _ => List UInt8 → Bool) (fun y => List.rec (motive := fun _ => Bool) true (fun _ _ _ => false) y)
    (fun a _ ih y => List.rec (motive := fun _ => Bool) false (fun b y _ => Bool.rec (motive := fun _ => Bool) false (ih y) (Nat.beq a.toNat b.toNat)) y) x
def bLt (x : List UInt8) : List UInt8 → Bool :=
  List.rec (motive := fun _ => List UInt8 → Bool) (fun y => List.rec (motive := fun _ => Bool) false (fun _ _ _ => true) y)
    (fun a _ ih y => List.rec (motive := fun _ => Bool) false (fun b y _ => Bool.rec (motive := fun _ => Bool) (Bool.rec (motive := fun _ => Bool) false (ih y) (Nat.beq a.toNat b.toNat)) true (Nat.ble (Nat.succ a.toNat) b.toNat)) y) x
/-- strict append -/
def sApp {α : Type} (x y : List α) : Option (List α) :=
  List.rec (motive := fun _ => Option (List α)) (some y) (fun a _ ih => bnd ih fun z => some (a :: z)) x
def sTake {α : Type} (n : Nat) : List α → Option (List α) :=
  Nat.rec (motive := fun _ => List α → Option (List α)) (fun _ => some [])
    (fun _ ih l => List.rec (motive := fun _ => Option (List α)) none (fun a x _ => bnd (ih x) fun z => some (a :: z)) l) n
def sDrop {α : Type} (n : Nat) : List α → List α :=
  Nat.rec (motive := fun _ => List α → List α) (fun l => l) (fun _ ih l => List.rec (motive := fun _ => List α) [] (fun _ x _ => ih x) l) n
def lGet {α : Type} (l : List α) : Nat → Option α :=
  List.rec (motive := fun _ => Nat → Option α) (fun _ => none) (fun a _ ih n => Nat.rec (motive := fun _ => Option α) (some a) (fun n _ => ih n) n) l
def lLen {α : Type} (l : List α) : Nat := List.rec (motive := fun _ => Nat) (nat_lit 0) (fun _ _ ih => Nat.succ ih) l
/-- vs over the first of cs -/
def sOver (vs : List Value) : List Value → Option (List Value) :=
  List.rec (motive := fun _ => List Value → Option (List Value)) (fun cs => some cs)
    (fun v _ ih cs => List.rec (motive := fun _ => Option (List Value)) none (fun _ cs _ => bnd (ih cs) fun z => some (v :: z)) cs) vs
/-- vs into cs from place n on -/
def sPut (n : Nat) (vs : List Value) : List Value → Option (List Value) :=
  Nat.rec (motive := fun _ => List Value → Option (List Value)) (fun cs => sOver vs cs)
    (fun _ ih cs => List.rec (motive := fun _ => Option (List Value)) none (fun c cs _ => bnd (ih cs) fun z => some (c :: z)) cs) n
def sRep (n : Nat) (z : List Value) : Option (List Value) :=
  Nat.rec (motive := fun _ => Option (List Value)) (some []) (fun _ ih => bnd ih fun y => sApp z y) n
def bytesV (l : List UInt8) : Option (List Value) :=
  List.rec (motive := fun _ => Option (List Value)) (some []) (fun b _ ih => bnd ih fun z => bnd (mkI .u8 (.ofNat b.toNat)) fun v => some (v :: z)) l
def byteOfV (v : Value) : Option UInt8 := match v with
  | .int k n => match k with
    | .u8 => match n with
      | .ofNat m => some (UInt8.ofNat m)
      | _ => none
    | _ => none
  | _ => none
def vBytes (l : List Value) : Option (List UInt8) :=
  List.rec (motive := fun _ => Option (List UInt8)) (some []) (fun v _ ih => bnd (byteOfV v) fun b => bnd ih fun z => some (b :: z)) l
def allL {α : Type} (f : α → Bool) (l : List α) : Bool := List.rec (motive := fun _ => Bool) true (fun a _ ih => Bool.rec (motive := fun _ => Bool) false ih (f a)) l
def strOf (l : List UInt8) : Value := .string ⟨⟨l⟩⟩
/-! ### Words of the seat: strings.Builder, internal/abi.NoEscape, internal/bytealg.IndexByteString -/
def TB : TypeId := 48
def NE : FuncId := 49
def IBS : FuncId := 111
/-! ### Memory -/
inductive AO where
  | cells (cs : List Value) (elem : TypeId) (ro : Bool)
  | map (es : List MapEntry) (clock : Nat)
  | chan (cap : Nat)
structure St where
  h : T AO
  nx : Nat
def OPEN : Nat := nat_lit 1180591620717411303424
def St.new (s : St) (o : AO) : Option (Nat × St) :=
  Nat.rec (motive := fun _ => Option (Nat × St)) none (fun n _ => bnd (s.h.put (Nat.succ n) (some o)) fun h => some (Nat.succ n, ⟨h, Nat.succ (Nat.succ n)⟩)) s.nx
def St.set (s : St) (b : Nat) (o : Option AO) : Option St := bnd (s.h.put b o) fun h => some ⟨h, s.nx⟩
def cellsV (v : Value) : List Value := match v with
  | .agg cs => cs.toList
  | v => [v]
def one (v : Value) : Bool := match v with
  | .agg _ => false
  | .tuple _ => false
  | _ => true
/-- no address in it -/
def clean0 (v : Value) : Bool := match v with
  | .bool _ => true
  | .int _ _ => true
  | .string _ => true
  | .nilFunc => true
  | .nilIface => true
  | .pointer a => match a with
    | none => true
    | _ => false
  | .map a => match a with
    | none => true
    | _ => false
  | .chan a => match a with
    | none => true
    | _ => false
  | .slice a l c => match a with
    | none => Bool.and (Nat.beq l (nat_lit 0)) (Nat.beq c (nat_lit 0))
    | _ => false
  | .func f x y => match f with
    | .func _ => Bool.and (Nat.beq (lLen x.toList) (nat_lit 0)) (Nat.beq (lLen y.toList) (nat_lit 0))
    | _ => false
  | _ => false
def clean (v : Value) : Bool := match v with
  | .agg cs => allL clean0 cs.toList
  | .tuple cs => allL clean0 cs.toList
  | v => clean0 v
/-! ### What values are -/
def asPtr (v : Value) : Option (Nat × Nat) := match v with
  | .pointer a => match a with
    | some a => match a with
      | ⟨b, o, p⟩ => match p with
        | none => some (b, o)
        | some _ => none
    | none => none
  | _ => none
def asInt (v : Value) : Option (IntKind × Int) := match v with
  | .int k n => some (k, n)
  | _ => none
def asNat (v : Value) : Option Nat := match v with
  | .int _ n => match n with
    | .ofNat m => some m
    | .negSucc _ => none
  | _ => none
def asBool (v : Value) : Option Bool := match v with
  | .bool b => some b
  | _ => none
def asStr (v : Value) : Option (List UInt8) := match v with
  | .string s => some s.data.toList
  | _ => none
def asAgg (v : Value) : Option (List Value) := match v with
  | .agg cs => some cs.toList
  | _ => none
def asTup (v : Value) : Option (List Value) := match v with
  | .tuple cs => some cs.toList
  | _ => none
def asMap (v : Value) : Option Nat := match v with
  | .map r => r
  | _ => none
/-- where a slice begins: none: nowhere; length, capacity -/
inductive SlV where
  | mk (a : Option (Nat × Nat)) (len cap : Nat)
def asSl (v : Value) : Option SlV := match v with
  | .slice a l c => match a with
    | none => some (.mk none l c)
    | some a => match a with
      | ⟨b, o, p⟩ => match p with
        | none => some (.mk (some (b, o)) l c)
        | some _ => none
  | _ => none
def ptrV (b o : Nat) : Value := .pointer (some ⟨b, o, none⟩)
def slV (b o l c : Nat) : Value := .slice (some ⟨b, o, none⟩) l c
def dElem (d : TypeDesc) : Option TypeId := match d with
  | .slice e => some e
  | _ => none
def dStruct (d : TypeDesc) : Option (List Field) := match d with
  | .struct fs => some fs.toList
  | _ => none
def dArr (d : TypeDesc) : Option (Nat × TypeId) := match d with
  | .array n e => some (n, e)
  | _ => none
def dInt (d : TypeDesc) : Option IntKind := match d with
  | .int k => some k
  | _ => none
def dStr (d : TypeDesc) : Bool := match d with
  | .string => true
  | _ => false
def dMap (d : TypeDesc) : Option (TypeId × TypeId) := match d with
  | .map k v => some (k, v)
  | _ => none
def dAgg (d : TypeDesc) : Bool := match d with
  | .struct _ => true
  | .array _ _ => true
  | _ => false
def dU8 (d : TypeDesc) : Bool := match d with
  | .int k => match k with
    | .u8 => true
    | _ => false
  | _ => false
section
variable (P : Program)
def szOf (t : TypeId) : Option Nat := Option.rec (motive := fun _ => Option Nat) none (fun i => some i.size) (P.info? t)
def byOf (t : TypeId) : Option Nat := Option.rec (motive := fun _ => Option Nat) none (fun i => some i.bytes) (P.info? t)
def zeroOf (t : TypeId) : Option Value := bnd (P.info? t) fun i => bnd i.zero fun z => bB (clean z) (some z)
def ev (φ : T Value) (x : Operand) : Option Value := match x with
  | .tmp t => Option.rec (motive := fun _ => Option Value) (some undef) (fun v => some v) (φ.get t)
  | .const v => bB (clean v) (some v)
  | .global g => bB (Nat.ble (Nat.succ g) P.globals.size) (some (ptrV g (nat_lit 0)))
  | .func f => some (.func (.func f) ⟨[]⟩ ⟨[]⟩)
def evs (φ : T Value) (l : List Operand) : Option (List Value) :=
  List.rec (motive := fun _ => Option (List Value)) (some []) (fun x _ ih => bnd (ev P φ x) fun v => bnd ih fun vs => some (v :: vs)) l
def cellsAt (s : St) (b : Nat) : Option (List Value) := bnd (s.h.get b) fun o => match o with
  | .cells cs _ _ => some cs
  | _ => none
/-- cells that may be written, and their type -/
def wrAt (s : St) (b : Nat) : Option (List Value × TypeId) := bnd (s.h.get b) fun o => match o with
  | .cells cs e ro => Bool.rec (motive := fun _ => Option (List Value × TypeId)) (some (cs, e)) none ro
  | _ => none
def mapAt (s : St) (b : Nat) : Option (List MapEntry × Nat) := bnd (s.h.get b) fun o => match o with
  | .map es c => some (es, c)
  | _ => none
def partC (t : TypeId) (cs : List Value) (o : Nat) : Option Value := bnd (P.underlying t) fun d =>
  bE (dAgg d) (bnd (szOf P t) fun k => bnd (sTake k (sDrop o cs)) fun l => some (.agg ⟨l⟩)) (lGet cs o)
def loadN (s : St) (b o k : Nat) : Option (List Value) := bnd (cellsAt s b) fun cs => sTake k (sDrop o cs)
def loadA (s : St) (t : TypeId) (b o : Nat) : Option Value := bnd (cellsAt s b) fun cs => partC P t cs o
def storeN (s : St) (b o : Nat) (vs : List Value) : Option St := bnd2 (wrAt s b) fun cs e => bnd (sPut o vs cs) fun cs => s.set b (some (.cells cs e false))
/-! ### Equality -/
def nilish (v : Value) : Option Bool := match v with
  | .pointer a => match a with
    | none => some true
    | some _ => some false
  | .map a => match a with
    | none => some true
    | some _ => some false
  | .slice a _ c => match a with
    | none => bB (Nat.beq c (nat_lit 0)) (some true)
    | some _ => some false
  | .nilIface => some true
  | .iface _ _ => some false
  | .nilFunc => some true
  | .func _ _ _ => some false
  | _ => none
def sameForm (d : TypeDesc) (x y : Value) : Bool := match d with
  | .pointer _ => match x with
    | .pointer _ => match y with
      | .pointer _ => true
      | _ => false
    | _ => false
  | .slice _ => match x with
    | .slice _ _ _ => match y with
      | .slice _ _ _ => true
      | _ => false
    | _ => false
  | .map _ _ => match x with
    | .map _ => match y with
      | .map _ => true
      | _ => false
    | _ => false
  | .interface _ => match x with
    | .nilIface => match y with
      | .nilIface => true
      | .iface _ _ => true
      | _ => false
    | .iface _ _ => match y with
      | .nilIface => true
      | _ => false
    | _ => false
  | .func _ _ _ => match x with
    | .nilFunc => match y with
      | .nilFunc => true
      | .func _ _ _ => true
      | _ => false
    | .func _ _ _ => match y with
      | .nilFunc => true
      | _ => false
    | _ => false
  | _ => false
/-- nil against anything: at least one is nil -/
def eqNil (d : TypeDesc) (x y : Value) : Option Bool := bB (sameForm d x y) (bnd (nilish x) fun a => bnd (nilish y) fun b => bE (Bool.or a b) (some (Bool.and a b)) none)
/-- two addresses in one piece of memory -/
def eqPtr (s : St) (d : TypeDesc) (x y : Value) : Option Bool := match d with
  | .pointer e => bnd2 (asPtr x) fun b o => bnd2 (asPtr y) fun b' o' => bnd (szOf P e) fun k => bB (Nat.ble (nat_lit 1) k) (bB (Nat.beq b b') (bnd (s.h.get b) fun _ => some (Nat.beq o o')))
  | _ => none
def eqBase (d : TypeDesc) (x y : Value) : Option Bool := match d with
  | .bool => bnd (asBool x) fun a => bnd (asBool y) fun b => some (Bool.rec (motive := fun _ => Bool) (Bool.not b) b a)
  | .int _ => bnd2 (asInt x) fun k a => bnd2 (asInt y) fun k' b => bB (kEq k k') (some (iEq a b))
  | .string => bnd (asStr x) fun a => bnd (asStr y) fun b => some (bEq a b)
  | d => eqNil d x y
def eqElems (ih : TypeId → Value → Value → Option Bool) (e : TypeId) (k : Nat) (xs ys : List Value) (n : Nat) : Nat → Option Bool :=
  Nat.rec (motive := fun _ => Nat → Option Bool) (fun _ => some true)
    (fun _ ihn i => bnd (partC P e xs (Nat.mul i k)) fun x => bnd (partC P e ys (Nat.mul i k)) fun y => bnd (ih e x y) fun r => bE r (ihn (Nat.succ i)) (some false)) n
def eqFields (ih : TypeId → Value → Value → Option Bool) (xs ys : List Value) (fs : List Field) : Option Bool :=
  List.rec (motive := fun _ => Option Bool) (some true)
    (fun f _ ihf => bE (decide (f.name = "_")) none (bnd (partC P f.type xs f.offset) fun x => bnd (partC P f.type ys f.offset) fun y => bnd (ih f.type x y) fun r => bE r ihf (some false))) fs
def ifOf (v : Value) : Option (TypeId × Value) := match v with
  | .iface t u => some (t, u)
  | _ => none
/-- two interfaces that hold things; else nil at one side -/
def eqIf (ih : TypeId → Value → Value → Option Bool) (d : TypeDesc) (x y : Value) : Option Bool :=
  bE (Bool.and (Option.isSome (ifOf x)) (Option.isSome (ifOf y)))
    (bnd2 (ifOf x) fun t u => bnd2 (ifOf y) fun t' u' => bE (Nat.beq t t') (bnd (P.info? t) fun i => bB i.comparable (ih t u u')) (some false)) (eqBase d x y)
def eqD (ih : TypeId → Value → Value → Option Bool) (t : TypeId) (d : TypeDesc) (x y : Value) : Option Bool := match d with
  | .struct fs => bnd (asAgg x) fun xs => bnd (asAgg y) fun ys => bE (P.stoodInHeld t) none (eqFields P ih xs ys fs.toList)
  | .array len e => bnd (asAgg x) fun xs => bnd (asAgg y) fun ys => bnd (szOf P e) fun k => eqElems P ih e k xs ys len (nat_lit 0)
  | .interface ms => eqIf P ih (.interface ms) x y
  | d => eqBase d x y
def eqT (n : Nat) : TypeId → Value → Value → Option Bool :=
  Nat.rec (motive := fun _ => TypeId → Value → Value → Option Bool) (fun _ _ _ => none) (fun _ ih t x y => bnd (P.underlying t) fun d => eqD P ih t d x y) n
def eqA (t : TypeId) (x y : Value) : Option Bool := eqT P (nat_lit 4) t x y
/-- what may be nil at both sides, or may not be seen -/
def eqAll (s : St) (t : TypeId) (x y : Value) : Option Bool := match x with
  | .agg _ => bE (P.eqGuardType P.depth t) none (eqA P t x y)
  | .nilIface => match y with
    | .nilIface => none
    | _ => eqA P t x y
  | _ => Option.rec (motive := fun _ => Option Bool) (bnd (P.underlying t) fun d => eqPtr P s d x y) (fun r => some r) (eqA P t x y)
def binStr (op : BinOp) (x y : List UInt8) : Option Value := match op with
  | .add => bnd (sApp x y) fun l => bB (Nat.ble (lLen l) (nat_lit 9223372036854775807)) (some (strOf l))
  | .eql => some (.bool (bEq x y))
  | .neq => some (.bool (Bool.not (bEq x y)))
  | .lss => some (.bool (bLt x y))
  | .leq => some (.bool (Bool.or (bLt x y) (bEq x y)))
  | .gtr => some (.bool (Bool.not (Bool.or (bLt x y) (bEq x y))))
  | .geq => some (.bool (Bool.not (bLt x y)))
  | _ => none
def binEq (s : St) (op : BinOp) (t : TypeId) (x y : Value) : Option Value := match op with
  | .eql => bnd (eqAll P s t x y) fun r => some (.bool r)
  | .neq => bnd (eqAll P s t x y) fun r => some (.bool (Bool.not r))
  | _ => none
def binA (s : St) (op : BinOp) (t : TypeId) (x y : Value) : Option Value := match x with
  | .int k a => match y with
    | .int k' b => binInt op k k' a b
    | _ => none
  | .string a => match y with
    | .string b => binStr op a.data.toList b.data.toList
    | _ => none
  | x => binEq P s op t x y
/-- nil against the word nil -/
def nilNil (ox oy : Operand) (x y : Value) : Bool := match x with
  | .nilIface => match y with
    | .nilIface => match ox with
      | .const _ => true
      | _ => match oy with
        | .const _ => true
        | _ => false
    | _ => false
  | _ => false
def binNN (op : BinOp) (d : TypeDesc) : Option Value := match d with
  | .interface _ => match op with
    | .eql => some (.bool true)
    | .neq => some (.bool false)
    | _ => none
  | _ => none
def binO (s : St) (op : BinOp) (t : TypeId) (ox oy : Operand) (x y : Value) : Option Value :=
  bE (nilNil ox oy x y) (bnd (P.underlying t) fun d => binNN op d) (binA P s op t x y)
def unA (op : UnOp) (x : Value) : Option Value := match op with
  | .neg => bnd2 (asInt x) fun k n => mkI k (wrapA k (Int.neg n))
  | .xor => bnd2 (asInt x) fun k n => bitA k (Nat.xor (Nat.sub (kMod k) (nat_lit 1)) (toN k n))
  | .not => bnd (asBool x) fun b => some (.bool (Bool.not b))
  | _ => none
/-! ### Parts laid over zeros -/
def fillA (place : Nat → Option (Nat × Nat)) (φ : T Value) (ps : List (Nat × Operand)) : List Value → Option (List Value) :=
  List.rec (motive := fun _ => List Value → Option (List Value)) (fun cs => some cs)
    (fun p _ ih cs => bnd2 (some p) fun i x => bnd2 (place i) fun off size => bnd (ev P φ x) fun v => bB (Nat.beq (lLen (cellsV v)) size) (bnd (sPut off (cellsV v) cs) fun cs => ih cs)) ps
def placeS (fs : List Field) (i : Nat) : Option (Nat × Nat) := bnd (lGet fs i) fun f => bnd (szOf P f.type) fun k => some (f.offset, k)
/-- the sizes of all fields are known -/
def allSz (fs : List Field) : Bool := allL (fun f => Option.rec (motive := fun _ => Bool) false (fun _ => true) (szOf P f.type)) fs
def boundA (x : Option Value) (d hi : Nat) : Option Nat :=
  Option.rec (motive := fun _ => Option Nat) (some d) (fun v => bnd (asNat v) fun m => bB (Nat.ble m hi) (some m)) x
def evO (φ : T Value) (x : Option Operand) : Option (Option Value) :=
  Option.rec (motive := fun _ => Option (Option Value)) (some none) (fun x => bnd (ev P φ x) fun v => some (some v)) x
def mkSl (b o l h m size : Nat) : Option Value := bE (Nat.beq m l) (some (slV b o (Nat.sub h l) (Nat.sub m l))) (some (slV b (Nat.add o (Nat.mul l size)) (Nat.sub h l) (Nat.sub m l)))
/-- a slice of open capacity, cut within its length -/
def cutOpen (a : Option (Nat × Nat)) (len cap l h size : Nat) : Option Value :=
  Option.rec (motive := fun _ => Option Value) (bB (Nat.beq len (nat_lit 0)) (some (.slice none (nat_lit 0) OPEN)))
    (fun p => Prod.rec (motive := fun _ => Option Value) (fun b o => bB (Nat.beq cap (Nat.add OPEN size)) (bE (Nat.ble (Nat.succ l) len) (some (slV b (Nat.add o (Nat.mul l size)) (Nat.sub h l) cap))
      (Nat.rec (motive := fun _ => Option Value) (some (slV b o h cap)) (fun _ _ => some (.slice none (nat_lit 0) OPEN)) l))) p) a
def cutSl (a : Option (Nat × Nat)) (l h m size : Nat) : Option Value :=
  Option.rec (motive := fun _ => Option Value) (some (.slice none (Nat.sub h l) (Nat.sub m l))) (fun p => Prod.rec (motive := fun _ => Option Value) (fun b o => mkSl b o l h m size) p) a
/-- a slice of open capacity, cut in three places within its length -/
def cutOpen3 (a : Option (Nat × Nat)) (l h m size : Nat) : Option Value :=
  Option.rec (motive := fun _ => Option Value) none (fun p => Prod.rec (motive := fun _ => Option Value) (fun b o => mkSl b o l h m size) p) a
def sliceSl (size : Nat) (x : SlV) (lo hi mx : Option Value) : Option Value := match x with
  | .mk a len cap => bE (Nat.ble OPEN cap)
      (match mx with
        | none => bnd (boundA hi len len) fun h => bnd (boundA lo (nat_lit 0) h) fun l => cutOpen a len cap l h size
        | some m => bnd (boundA (some m) (nat_lit 0) len) fun m => bnd hi fun hi => bnd (boundA (some hi) len m) fun h => bnd (boundA lo (nat_lit 0) h) fun l => cutOpen3 a l h m size)
      (bnd (boundA mx cap cap) fun m => bE (Bool.and (Option.isSome mx) (Option.isNone hi)) none (bnd (boundA hi len m) fun h => bnd (boundA lo (nat_lit 0) h) fun l => cutSl a l h m size))
def sliceStr (s : List UInt8) (lo hi mx : Option Value) : Option Value := match mx with
  | some _ => none
  | none => bnd (boundA hi (lLen s) (lLen s)) fun h => bnd (boundA lo (nat_lit 0) h) fun l => bnd (sTake (Nat.sub h l) (sDrop l s)) fun r => some (strOf r)
def sliceA (t : TypeId) (x : Value) (lo hi mx : Option Value) : Option Value := bnd (P.underlying t) fun d => match d with
  | .string => bnd (asStr x) fun s => sliceStr s lo hi mx
  | .slice e => bnd (szOf P e) fun size => bnd (asSl x) fun x => sliceSl size x lo hi mx
  | .array n e => bnd2 (asPtr x) fun b o => bnd (szOf P e) fun size => bB (Nat.ble n (nat_lit 1099511627776)) (bnd (boundA mx n n) fun m => bE (Bool.and (Option.isSome mx) (Option.isNone hi)) none (bnd (boundA hi n m) fun h => bnd (boundA lo (nat_lit 0) h) fun l => mkSl b o l h m size))
  | _ => none
def slLen (x : SlV) : Nat := match x with
  | .mk _ l _ => l
def lenA (s : St) (t : TypeId) (x : Value) : Option Value := bnd (P.underlying t) fun d => match d with
  | .string => bnd (asStr x) fun l => mkN (lLen l)
  | .array n _ => mkN n
  | .slice _ => bnd (asSl x) fun x => mkN (slLen x)
  | .map _ _ => match x with
    | .map r => Option.rec (motive := fun _ => Option Value) (mkN (nat_lit 0)) (fun r => bnd2 (mapAt s r) fun es _ => mkN (lLen es)) r
    | _ => none
  | _ => none
/-- a known capacity -/
def capA (x : Value) : Option Value := bnd (asSl x) fun x => match x with
  | .mk _ _ c => bE (Nat.ble OPEN c) none (mkN c)
/-- n elements of a slice or a string as cells -/
def srcSl (s : St) (k : Nat) (x : SlV) : Option (List Value) := match x with
  | .mk a _ _ => Option.rec (motive := fun _ => Option (List Value)) (bB (Nat.beq k (nat_lit 0)) (some [])) (fun p => Prod.rec (motive := fun _ => Option (List Value)) (fun b o => loadN s b o k) p) a
def srcA (s : St) (size n : Nat) (x : Value) : Option (List Value) := match x with
  | .string b => bB (Nat.beq size (nat_lit 1)) (bnd (sTake n b.data.toList) fun l => bytesV l)
  | x => bnd (asSl x) fun x => srcSl s (Nat.mul n size) x
def lenOfA (x : Value) : Option Nat := match x with
  | .string s => some (lLen s.data.toList)
  | x => bnd (asSl x) fun x => some (slLen x)
/-- into the room that is there -/
def appIn (s : St) (a : Option (Nat × Nat)) (len n cap size : Nat) (new : List Value) : Option (Value × St) :=
  Option.rec (motive := fun _ => Option (Value × St)) (bB (Nat.beq n (nat_lit 0)) (some (.slice none (Nat.add len n) cap, s)))
    (fun p => Prod.rec (motive := fun _ => Option (Value × St)) (fun b o => bnd (storeN s b (Nat.add o (Nat.mul len size)) new) fun s => some (slV b o (Nat.add len n) cap, s)) p) a
/-- into new memory -/
def appNew (s : St) (e : TypeId) (len n size : Nat) (old new : List Value) : Option (Value × St) :=
  bnd (sApp old new) fun cs => bnd2 (s.new (.cells cs e false)) fun b s => some (slV b (nat_lit 0) (Nat.add len n) (Nat.add OPEN size), s)
/-- open: there or into new memory -/
def appOpen (s : St) (e : TypeId) (a : Option (Nat × Nat)) (len cap n size : Nat) (new : List Value) : Option (Value × St) :=
  bnd2 a fun b o => bnd2 (wrAt s b) fun cs e' => bB (Nat.beq cap (Nat.add OPEN size)) (bE (Nat.ble (Nat.add o (Nat.mul (Nat.add len n) size)) (lLen cs))
    (bnd (storeN s b (Nat.add o (Nat.mul len size)) new) fun s => some (slV b o (Nat.add len n) cap, s))
    (bB (Nat.beq e' e) (bnd (sTake (Nat.mul len size) (sDrop o cs)) fun old => bnd (s.set b none) fun s => appNew s e len n size old new)))
def appendSl (s : St) (e : TypeId) (size bytes : Nat) (x : SlV) (n : Nat) (new : List Value) : Option (Value × St) := match x with
  | .mk a len cap => bB (Nat.ble (Nat.mul (Nat.add len n) bytes) (nat_lit 1099511627776)) (bB (Nat.ble (Nat.add len n) (nat_lit 1099511627776))
    (bE (Nat.ble OPEN cap) (appOpen s e a len cap n size new)
      (bE (Nat.ble (Nat.add len n) cap) (appIn s a len n cap size new) (bnd (srcSl s (Nat.mul len size) x) fun old => appNew s e len n size old new))))
def appendA (s : St) (t u : TypeId) (d x : Value) : Option (Value × St) := bnd (P.underlying t) fun dt => bnd (dElem dt) fun e => bB (Bool.not (Nat.beq e TB)) (bnd (P.underlying u) fun du => bB (Bool.or (Option.isSome (dElem du)) (dStr du))
  (bnd (szOf P e) fun size => bnd (byOf P e) fun bytes => bnd (zeroOf P e) fun z => bB (Nat.beq (lLen (cellsV z)) size) (bB (Nat.ble (nat_lit 1) size) (bB (Nat.ble (nat_lit 1) bytes)
    (bnd (lenOfA x) fun n => bnd (srcA s size n x) fun new => bB (allL one new) (bnd (asSl d) fun d => appendSl s e size bytes d n new))))))
def copyTo (s : St) (a : Option (Nat × Nat)) (cs : List Value) (n : Nat) : Option (Value × St) :=
  Option.rec (motive := fun _ => Option (Value × St)) (bB (Nat.beq n (nat_lit 0)) (bnd (mkN n) fun v => some (v, s)))
    (fun p => Prod.rec (motive := fun _ => Option (Value × St)) (fun b o => bnd (storeN s b o cs) fun s => bnd (mkN n) fun v => some (v, s)) p) a
def copyA (s : St) (t : TypeId) (d x : Value) : Option (Value × St) := bnd (P.underlying t) fun dt => bnd (dElem dt) fun e => bnd (szOf P e) fun size => bnd (lenOfA x) fun xl => bnd (asSl d) fun d => match d with
  | .mk a dl _ => bnd (srcA s size (minN xl dl) x) fun cs => bB (allL one cs) (copyTo s a cs (minN xl dl))
/-! ### Maps -/
def findA (t : TypeId) (k : Value) (es : List MapEntry) : Nat → Option (Option (Nat × Value)) :=
  List.rec (motive := fun _ => Nat → Option (Option (Nat × Value))) (fun _ => some none)
    (fun e _ ih i => bnd (eqA P t k e.key) fun r => bE r (some (some (i, e.val))) (ih (Nat.succ i))) es
def keyT0 (d : TypeDesc) : Bool := match d with
  | .int _ => true
  | .string => true
  | .bool => true
  | _ => false
def keyF (cs : List Value) (f : Field) : Bool := Bool.and (Bool.not (decide (f.name = "_"))) (Bool.and (Option.rec (motive := fun _ => Bool) false keyT0 (P.underlying f.type)) (Option.isSome (partC P f.type cs f.offset)))
/-- a key of a base type, or a struct of such -/
def keyOk (t : TypeId) (k : Value) : Bool := Option.rec (motive := fun _ => Bool) false (fun d => match d with
  | .struct fs => Option.rec (motive := fun _ => Bool) false (fun cs => allL (keyF P cs) fs.toList) (asAgg k)
  | d => keyT0 d) (P.underlying t)
def lookA (s : St) (t : TypeId) (m k : Value) (ok : Bool) : Option Value := bnd (P.underlying t) fun d => bnd2 (dMap d) fun kt vt => bnd (asMap m) fun r => bnd2 (mapAt s r) fun es _ => bB (keyOk P kt k)
  (bnd (findA P kt k es (nat_lit 0)) fun r => match r with
    | some p => match p with
      | (_, v) => bE ok (some (.tuple ⟨[v, .bool true]⟩)) (some v)
    | none => bnd (zeroOf P vt) fun z => bE ok (some (.tuple ⟨[z, .bool false]⟩)) (some z))
def setE (k v : Value) (es : List MapEntry) : Nat → Option (List MapEntry) :=
  List.rec (motive := fun _ => Nat → Option (List MapEntry)) (fun _ => none)
    (fun e es ih n => Nat.rec (motive := fun _ => Option (List MapEntry)) (some (⟨k, v, e.born⟩ :: es)) (fun n _ => bnd (ih n) fun z => some (e :: z)) n) es
def mapSet (s : St) (t : TypeId) (m k v : Value) : Option St := bnd (P.underlying t) fun d => bnd2 (dMap d) fun kt _ => bnd (asMap m) fun r => bnd2 (mapAt s r) fun es c => bB (keyOk P kt k)
  (bnd (findA P kt k es (nat_lit 0)) fun f => Option.rec (motive := fun _ => Option St) (bnd (sApp es [⟨k, v, c⟩]) fun es => s.set r (some (.map es (Nat.succ c))))
    (fun p => bnd (P.underlying kt) fun dk => bB (keyT0 dk) (bnd (setE k v es p.1) fun es => s.set r (some (.map es c)))) f)
def pick2 (mn : Bool) (x y : Int) : Int := Bool.rec (motive := fun _ => Int) (Bool.rec (motive := fun _ => Int) x y (iLt x y)) (Bool.rec (motive := fun _ => Int) x y (iLt y x)) mn
def foldMM (mn : Bool) (vs : List Value) : Value → Option Value :=
  List.rec (motive := fun _ => Value → Option Value) (fun v => some v) (fun y _ ih x => bnd2 (asInt x) fun k a => bnd2 (asInt y) fun k' b => bB (kEq k k') (ih (.int k (pick2 mn a b)))) vs
/-! ### Operations -/
def pureS (s : St) (x : Option Value) : Option (Value × St) := bnd x fun v => some (v, s)
def undS (x : Option St) : Option (Value × St) := bnd x fun s => some (undef, s)
def opPick (s : St) (c a b : Value) : Option (Value × St) := bnd (asBool c) fun c => bE c (some (a, s)) (some (b, s))
def opNew (s : St) (e : TypeId) (cs : List Value) : Option (Value × St) := bnd2 (s.new (.cells cs e false)) fun b s => some (ptrV b (nat_lit 0), s)
def opNewSl (s : St) (e : TypeId) (cs : List Value) (l c : Nat) : Option (Value × St) := bnd2 (s.new (.cells cs e false)) fun b s => some (slV b (nat_lit 0) l c, s)
def opBuild (φ : T Value) (t : TypeId) (parts : List (Nat × Operand)) : Option Value := bnd (zeroOf P t) fun z => bnd (P.underlying t) fun d => match d with
  | .struct fs => bB (allSz P fs.toList) (bnd (fillA P (placeS P fs.toList) φ parts (cellsV z)) fun cs => some (.agg ⟨cs⟩))
  | .array _ e => bnd (szOf P e) fun k => bnd (fillA P (fun i => some (Nat.mul i k, k)) φ parts (cellsV z)) fun cs => some (.agg ⟨cs⟩)
  | _ => none
def opBuildSl (s : St) (φ : T Value) (t : TypeId) (len : Nat) (parts : List (Nat × Operand)) : Option (Value × St) := bnd (P.underlying t) fun d => bnd (dElem d) fun e => bnd (szOf P e) fun k => bnd (zeroOf P e) fun z =>
  bB (Nat.beq (lLen (cellsV z)) k) (bB (Nat.ble (Nat.mul len k) (nat_lit 100000)) (bB (Nat.ble (nat_lit 1) k)
    (bnd (sRep len (cellsV z)) fun zs => bnd (fillA P (fun i => some (Nat.mul i k, k)) φ parts zs) fun cs => opNewSl s e cs len len)))
def opStore (s : St) (t : TypeId) (a x : Value) : Option St := bnd2 (asPtr a) fun b o => bnd (szOf P t) fun k => bB (Nat.beq (lLen (cellsV x)) k) (bB (allL one (cellsV x)) (storeN s b o (cellsV x)))
def opNil (x : Value) : Option Value := match x with
  | .pointer a => match a with
    | some _ => some x
    | none => none
  | .func f _ _ => match f with
    | .func _ => some x
    | _ => none
  | _ => none
def convInt (d : TypeDesc) (n : Int) : Option Value := match d with
  | .int k => mkI k (wrapA k n)
  | .string => some (.string (Utf8.encode n))
  | _ => none
def convStr (s : St) (d : TypeDesc) (b : List UInt8) : Option (Value × St) := match d with
  | .string => some (strOf b, s)
  | .slice e => bB (Bool.not (Nat.beq e TB)) (bnd (P.underlying e) fun de => bB (dU8 de) (bnd (szOf P e) fun k => bB (Nat.beq k (nat_lit 1)) (bnd (bytesV b) fun cs => bB (Nat.ble (lLen cs) (nat_lit 1099511627776)) (opNewSl s e cs (lLen cs) (Nat.add OPEN (nat_lit 1))))))
  | _ => none
def convSl (s : St) (src dst : TypeId) (ds dd : TypeDesc) (v : Value) : Option Value := bnd (asSl v) fun x => bnd (dElem ds) fun e => match dd with
  | .string => bnd (P.underlying e) fun de => bB (dU8 de) (bnd (srcSl s (slLen x) x) fun cs => bnd (vBytes cs) fun l => some (strOf l))
  | .slice e => bB (Nat.beq src dst) (bnd (P.underlying e) fun de => bB (dU8 de) (match x with
    | .mk a _ _ => bnd2 a fun b _ => bnd (wrAt s b) fun _ => some v))
  | _ => none
def dUnsafe (d : TypeDesc) : Bool := match d with
  | .unsafePointer => true
  | _ => false
def dPtr (d : TypeDesc) : Option TypeId := match d with
  | .pointer e => some e
  | _ => none
/-- a pointer to unsafe.Pointer; back to a Builder that has a block of its own -/
def convPtr (s : St) (ds dd : TypeDesc) (x : Value) : Option Value := bnd2 (asPtr x) fun b o => bnd (s.h.get b) fun ob => match ob with
  | .cells cs e _ => bB (Nat.ble (Nat.succ o) (lLen cs)) (bE (dUnsafe dd)
      (bnd (dPtr ds) fun t => bnd (szOf P t) fun k => bB (Nat.ble (nat_lit 1) k) (some x))
      (bnd (dPtr dd) fun u => bB (dUnsafe ds) (bB (Nat.beq e TB) (bB (Nat.beq u TB) (bB (Nat.beq (lLen cs) (nat_lit 2)) (bB (Nat.beq o (nat_lit 0)) (some x)))))))
  | _ => none
def opConv (s : St) (src dst : TypeId) (x : Value) : Option (Value × St) := bnd (P.underlying src) fun ds => bnd (P.underlying dst) fun dd => match x with
  | .int _ n => pureS s (convInt dd n)
  | .string b => convStr P s dd b.data.toList
  | .slice _ _ _ => pureS s (convSl P s src dst ds dd x)
  | .pointer _ => pureS s (convPtr P s ds dd x)
  | _ => none
def opIface (t : TypeId) (x : Value) : Option Value := bnd (P.underlying t) fun d => match d with
  | .interface _ => none
  | _ => some (.iface t x)
def opMakeSl (s : St) (t : TypeId) (l c : Value) : Option (Value × St) := bnd (P.underlying t) fun d => bnd (dElem d) fun e => bnd (asNat l) fun l => bnd (asNat c) fun c => bnd (szOf P e) fun k => bnd (byOf P e) fun by_ => bnd (zeroOf P e) fun z =>
  bB (Nat.beq (lLen (cellsV z)) k) (bB (Nat.ble l c) (bB (Nat.ble (Nat.mul by_ c) (nat_lit 1099511627776)) (bB (Nat.ble c (nat_lit 1099511627776)) (bB (Nat.ble (nat_lit 1) k)
    (bnd (sRep c (cellsV z)) fun zs => opNewSl s e zs l c)))))
def opFieldAddr (t : TypeId) (x : Value) (f : Nat) : Option Value := bnd (P.underlying t) fun d => bnd (dStruct d) fun fs => bnd2 (asPtr x) fun b o => bnd (lGet fs f) fun fd => bnd (szOf P fd.type) fun k => bB (Nat.ble (nat_lit 1) k) (some (ptrV b (Nat.add o fd.offset)))
def opField (t : TypeId) (x : Value) (f : Nat) : Option Value := bnd (P.underlying t) fun d => bnd (dStruct d) fun fs => bnd (asAgg x) fun cs => bnd (lGet fs f) fun fd => partC P fd.type cs fd.offset
def opIdxAddr (t : TypeId) (x i : Value) : Option Value := bnd (P.underlying t) fun d => bnd (asNat i) fun i => match d with
  | .slice e => bnd (szOf P e) fun k => bnd (asSl x) fun x => match x with
    | .mk a len _ => bnd2 a fun b o => bB (Nat.ble (Nat.succ i) len) (some (ptrV b (Nat.add o (Nat.mul i k))))
  | .array len e => bnd (szOf P e) fun k => bnd2 (asPtr x) fun b o => bB (Nat.ble (Nat.succ i) len) (some (ptrV b (Nat.add o (Nat.mul i k))))
  | _ => none
def opIndex (t : TypeId) (x i : Value) : Option Value := bnd (P.underlying t) fun d => bnd (asNat i) fun i => match d with
  | .string => bnd (asStr x) fun l => bnd (lGet l i) fun c => mkI .u8 (.ofNat c.toNat)
  | .array len e => bnd (szOf P e) fun k => bnd (asAgg x) fun cs => bB (Nat.ble (Nat.succ i) len) (partC P e cs (Nat.mul i k))
  | _ => none
def opExtract (x : Value) (i : Nat) : Option Value := bnd (asTup x) fun l => lGet l i
def opClear (s : St) (t : TypeId) (x : Value) : Option (Value × St) := bnd (P.underlying t) fun d => bnd (dElem d) fun e => bnd (asSl x) fun x => match x with
  | .mk a len _ => Nat.rec (motive := fun _ => Option (Value × St)) (some (.tuple ⟨[]⟩, s))
      (fun _ _ => bnd2 a fun b o => bnd (zeroOf P e) fun z => bnd (szOf P e) fun k => bB (Nat.beq (lLen (cellsV z)) k) (bB (Nat.ble (nat_lit 1) k) (bnd (sRep len (cellsV z)) fun zs => bB (allL one zs) (bnd (storeN s b o zs) fun s => some (.tuple ⟨[]⟩, s))))) len
def opSlData (x : Value) : Option Value := bnd (asSl x) fun x => match x with
  | .mk a len cap => Option.rec (motive := fun _ => Option Value) (bB (Nat.beq cap (nat_lit 0)) (some (.pointer none))) (fun p => Prod.rec (motive := fun _ => Option Value) (fun b o => bB (Nat.ble (nat_lit 1) len) (bB (Nat.ble (nat_lit 1) cap) (some (ptrV b o)))) p) a
def asN64 (v : Value) : Option Nat := match v with
  | .int k n => match k with
    | .i64 => match n with
      | .ofNat m => bB (Nat.ble m (nat_lit 9223372036854775807)) (some m)
      | .negSucc _ => none
    | _ => none
  | _ => none
def emptyS (s : St) (p : Value) : Option (Value × St) := match p with
  | .pointer _ => some (strOf [], s)
  | _ => none
def opUStr (s : St) (t : TypeId) (p n : Value) : Option (Value × St) := bnd (asN64 n) fun n =>
  Nat.rec (motive := fun _ => Option (Value × St)) (emptyS s p)
    (fun m _ => bnd (P.underlying t) fun d => bnd (dPtr d) fun e => bnd2 (asPtr p) fun b o => bnd2 (wrAt s b) fun cs e' => bB (Nat.beq e e') (bnd (szOf P e') fun k => bB (Nat.beq k (nat_lit 1))
      (bnd (sTake (Nat.succ m) (sDrop o cs)) fun l => bnd (vBytes l) fun r => bnd (s.set b (some (.cells cs e' true))) fun s => some (strOf r, s)))) n
end
def opBuiltin (b : Builtin) : Program → St → List TypeId → List Value → Option (Value × St) := match b with
  | .append => fun P s ts vs => bnd (lGet ts (nat_lit 0)) fun t => bnd (lGet ts (nat_lit 1)) fun u => bnd (lGet vs (nat_lit 0)) fun d => bnd (lGet vs (nat_lit 1)) fun x => appendA P s t u d x
  | .copy => fun P s ts vs => bnd (lGet ts (nat_lit 0)) fun t => bnd (lGet vs (nat_lit 0)) fun d => bnd (lGet vs (nat_lit 1)) fun x => copyA P s t d x
  | .len => fun P s ts vs => bnd (lGet ts (nat_lit 0)) fun t => bnd (lGet vs (nat_lit 0)) fun x => pureS s (lenA P s t x)
  | .min => fun _ s _ vs => bnd (lGet vs (nat_lit 0)) fun x => pureS s (foldMM true (sDrop (nat_lit 1) vs) x)
  | .max => fun _ s _ vs => bnd (lGet vs (nat_lit 0)) fun x => pureS s (foldMM false (sDrop (nat_lit 1) vs) x)
  | .clear => fun P s ts vs => bnd (lGet ts (nat_lit 0)) fun t => bnd (lGet vs (nat_lit 0)) fun x => opClear P s t x
  | .unsafeSliceData => fun _ s _ vs => bnd (lGet vs (nat_lit 0)) fun x => bB (Nat.beq (lLen vs) (nat_lit 1)) (pureS s (opSlData x))
  | .unsafeString => fun P s ts vs => bnd (lGet ts (nat_lit 0)) fun t => bnd (lGet vs (nat_lit 0)) fun p => bnd (lGet vs (nat_lit 1)) fun n => bB (Nat.beq (lLen vs) (nat_lit 2)) (opUStr P s t p n)
  | .cap => fun P s ts vs => bnd (lGet ts (nat_lit 0)) fun t => bnd (lGet vs (nat_lit 0)) fun x => bnd (P.underlying t) fun d => bnd (dElem d) fun _ => pureS s (capA x)
  | _ => fun _ _ _ _ => none
section
variable (P : Program)
def yA (ops : List Oper) (φ : T Value) (j : Nat) : Option Bool := bnd (lGet ops j) fun o => bnd o.dst fun t => bnd (φ.get t) fun v => asBool v
def wantA (ops : List Oper) (φ : T Value) (o : Oper) : Bool := match o.guard with
  | none => true
  | some p => match p with
    | (j, w) => Option.rec (motive := fun _ => Bool) false (fun b => Bool.rec (motive := fun _ => Bool) (Bool.not w) w b) (yA ops φ j)
def putA (N : Nat) (φ : T Value) (d : Option Tmp) (v : Value) : Option (T Value) :=
  Option.rec (motive := fun _ => Option (T Value)) (some φ) (fun t => bB (Nat.ble (Nat.succ t) N) (φ.put t (some v))) d
def frame0 (vs : List Value) : Nat → T Value → Option (T Value) :=
  List.rec (motive := fun _ => Nat → T Value → Option (T Value)) (fun _ φ => some φ) (fun v _ ih i φ => bnd (φ.put i (some v)) fun φ => ih (Nat.succ i) φ) vs
def resOne (s : St) (φ : T Value) (r : ResultVar) : Option Value := match r with
  | .tmp t => Option.rec (motive := fun _ => Option Value) (some undef) (fun v => some v) (φ.get t)
  | .cell a t => bnd (φ.get a) fun v => bnd2 (asPtr v) fun b o => loadA P s t b o
def resA (s : St) (φ : T Value) (rs : List ResultVar) : Option (List Value) :=
  List.rec (motive := fun _ => Option (List Value)) (some []) (fun r _ ih => bnd (resOne P s φ r) fun v => bnd ih fun vs => some (v :: vs)) rs
def resV (vs : List Value) : Value := match vs with
  | [v] => v
  | vs => .tuple ⟨vs⟩
end
end
end Go.Proofs.YtgdlfecppecooaaGreatDoor.ev
