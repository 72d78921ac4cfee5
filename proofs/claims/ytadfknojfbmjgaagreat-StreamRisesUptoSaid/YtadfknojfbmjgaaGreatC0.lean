/- StreamRises: a part of the proof. -/
import Derived.Orders
import Derived.Below
import Derived.Test.YtadfknojfbmjgaaGreatCA
set_option linter.all false
namespace Go.Proofs.YtadfknojfbmjgaaGreat
namespace sx
open Go
noncomputable section
def oB {α β:Type} (x:Option α) (f:α->Option β):Option β:=Option.rec (motive:=λ_=>Option β) none f x
def oI {β:Type} (b:Bool) (x:Option β):Option β:=Bool.rec (motive:=λ_=>Option β) none x b
def oE {β:Type} (b:Bool) (x y:Option β):Option β:=Bool.rec (motive:=λ_=>Option β) y x b
inductive C (α:Type) where
 | ret (a:α)
 | fail
 | fq (p:Prop) (x:C α)
 | split (b:Bool) (x y:C α)
def av {α β:Type} (x:C α) (f:α->C β):C β:=
 C.rec (motive:=λ_=>C β) f .fail (λp _ d=>.fq p d) (λb _ _ a c=>.split b a c) x
def aI {α β a:Type} (x:C (α×β)) (f:α->β->C a):C a:=av x λp=>Prod.rec (motive:=λ_=>C a) f p
def bB {β:Type} (b:Bool) (x:C β):C β:=Bool.rec (motive:=λ_=>C β) .fail x b
def bE {β:Type} (b:Bool) (x y:C β):C β:=Bool.rec (motive:=λ_=>C β) y x b
def cE {α:Type} (x:Option α):C α:=Option.rec (motive:=λ_=>C α) .fail (λa=>.ret a) x
def ask {β:Type} (b:Bool) (x:C β):C β:=.fq (b) x
def C.wp {α:Type} (x:C α) (K:α->Prop):Prop:=
 C.rec (motive:=λ_=>Prop) K False (λp _ c=>p/\c) (λb _ _ h1 a=>(b->h1)/\(b=false->a)) x
def C.H {α:Type} (x:C α) (v:α):Prop:=
 C.rec (motive:=λ_=>Prop) (λa=>a=v) False (λp _ d=>p/\d) (λb _ _ h1 c=>(b/\h1)\/(b=false/\c)) x
inductive T (α:Type) where
 | nil
 | node (v:Option α) (l r:T α)
def T.get {α:Type} (t:T α):Nat->Option α:=
 T.rec (motive:=λ_=>Nat->Option α) (λ_=>none)
  (λv _ _ gl gr k=>Nat.rec (motive:=λ_=>Option α) v
   (λk _=>Nat.rec (motive:=λ_=>Option α) (gl (Nat.div k (nat_lit 2))) (λ_ _=>gr (Nat.div k (nat_lit 2))) (Nat.mod k (nat_lit 2))) k) t
def T.mk1 {α:Type} (n:Nat):Nat->Option α->Option (T α):=
 Nat.rec (motive:=λ_=>Nat->Option α->Option (T α)) (λ_ _=>none)
  (λ_ b k a=>Nat.rec (motive:=λ_=>Option (T α)) (some (.node a .nil .nil))
   (λk _=>Nat.rec (motive:=λ_=>Option (T α)) (oB (b (Nat.div k (nat_lit 2)) a) λl=>some (.node none l .nil))
    (λ_ _=>oB (b (Nat.div k (nat_lit 2)) a) λr=>some (.node none .nil r)) (Nat.mod k (nat_lit 2))) k) n
def T.put {α:Type} (t:T α):Nat->Option α->Option (T α):=
 T.rec (motive:=λ_=>Nat->Option α->Option (T α)) (λk a=>T.mk1 (nat_lit 64) k a)
  (λv l r pl c k a=>Nat.rec (motive:=λ_=>Option (T α)) (some (.node a l r))
   (λk _=>Nat.rec (motive:=λ_=>Option (T α)) (oB (pl (Nat.div k (nat_lit 2)) a) λb=>some (.node v b r))
    (λ_ _=>oB (c (Nat.div k (nat_lit 2)) a) λd=>some (.node v l d)) (Nat.mod k (nat_lit 2))) k) t
def WX (x y:Int):Bool:=match x with
 | .ofNat a=>match y with
  | .ofNat b=>Nat.beq a b
  | .negSucc _=>false
 | .negSucc a=>match y with
  | .ofNat _=>false
  | .negSucc b=>Nat.beq a b
def W5 (x y:Int):Bool:=match x with
 | .ofNat a=>match y with
  | .ofNat b=>Nat.ble (Nat.succ a) b
  | .negSucc _=>false
 | .negSucc a=>match y with
  | .ofNat _=>true
  | .negSucc b=>Nat.ble (Nat.succ b) a
def kIx:IntKind->Nat
 | .i8=>nat_lit 0 | .i16=>nat_lit 1 | .i32=>nat_lit 2 | .i64=>nat_lit 3 | .u8=>nat_lit 4 | .u16=>nat_lit 5 | .u32=>nat_lit 6 | .u64=>nat_lit 7
def Bi (a b:IntKind):Bool:=Nat.beq (kIx a) (kIx b)
def kHi:IntKind->Nat
 | .i8=>nat_lit 127 | .i16=>nat_lit 32767 | .i32=>nat_lit 2147483647 | .i64=>nat_lit 9223372036854775807
 | .u8=>nat_lit 255 | .u16=>nat_lit 65535 | .u32=>nat_lit 4294967295 | .u64=>nat_lit 18446744073709551615
def kLo:IntKind->Nat
 | .i8=>nat_lit 128 | .i16=>nat_lit 32768 | .i32=>nat_lit 2147483648 | .i64=>nat_lit 9223372036854775808
 | .u8=>nat_lit 0 | .u16=>nat_lit 0 | .u32=>nat_lit 0 | .u64=>nat_lit 0
def uH:IntKind->Nat
 | .i8=>nat_lit 256 | .u8=>nat_lit 256 | .i16=>nat_lit 65536 | .u16=>nat_lit 65536 | .i32=>nat_lit 4294967296 | .u32=>nat_lit 4294967296
 | .i64=>nat_lit 18446744073709551616 | .u64=>nat_lit 18446744073709551616
def rI (k:IntKind) (n:Int):Int:=match n with
 | .ofNat m=>Bool.rec (motive:=λ_=>Int) (k.wrap (.ofNat m)) (.ofNat m) (Nat.ble m (kHi k))
 | .negSucc m=>Bool.rec (motive:=λ_=>Int) (k.wrap (.negSucc m)) (.negSucc m) (Nat.ble (Nat.succ m) (kLo k))
inductive CV where
 | num (k:IntKind) (n:Int)
 | lit (b:Bool)
def OO (k:IntKind) (n:Int):Option CV:=match n with
 | .ofNat m=>Nat.rec (motive:=λ_=>Option CV) (some (.num k (.ofNat (nat_lit 0)))) (λm _=>some (.num k (.ofNat (Nat.succ m)))) m
 | .negSucc m=>Nat.rec (motive:=λ_=>Option CV) (some (.num k (.negSucc (nat_lit 0)))) (λm _=>some (.num k (.negSucc (Nat.succ m)))) m
def mkN (m:Nat):Option CV:=Nat.rec (motive:=λ_=>Option CV) (some (.num .i64 (.ofNat (nat_lit 0)))) (λm _=>some (.num .i64 (.ofNat (Nat.succ m)))) m
def C4 (k:IntKind) (n:Int):Nat:=match n with
 | .ofNat m=>Nat.mod m (uH k)
 | .negSucc m=>Nat.sub (Nat.sub (uH k) (nat_lit 1)) (Nat.mod m (uH k))
def L8 (k:IntKind) (n:Nat):Option CV:=OO k (rI k (.ofNat n))
def W6 (op:BinOp) (k:IntKind) (x y:Int):Option CV:=match op with
 | .add=>OO k (rI k (Int.add x y))
 | .sub=>OO k (rI k (Int.sub x y))
 | .mul=>OO k (rI k (Int.mul x y))
 | .quo=>oE (WX y (.ofNat (nat_lit 0))) none (OO k (rI k (Int.tdiv x y)))
 | .rem=>oE (WX y (.ofNat (nat_lit 0))) none (OO k (Int.tmod x y))
 | .and=>L8 k (Nat.land (C4 k x) (C4 k y))
 | .or=>L8 k (Nat.lor (C4 k x) (C4 k y))
 | .xor=>L8 k (Nat.xor (C4 k x) (C4 k y))
 | .eql=>some (.lit (WX x y))
 | .neq=>some (.lit (Bool.not (WX x y)))
 | .lss=>some (.lit (W5 x y))
 | .leq=>some (.lit (Bool.not (W5 y x)))
 | .gtr=>some (.lit (W5 y x))
 | .geq=>some (.lit (Bool.not (W5 x y)))
 | _=>none
def OP (a b:Nat):Nat:=Bool.rec (motive:=λ_=>Nat) b a (Nat.ble a b)
def QgH (k:IntKind) (x:Int) (m:Nat):Option CV:=OO k (rI k (Int.mul x (.ofNat (Nat.pow (nat_lit 2) (OP m k.bits)))))
def QgI (k:IntKind) (x:Int) (m:Nat):Option CV:=match x with
 | .ofNat x=>OO k (.ofNat (Nat.div x (Nat.pow (nat_lit 2) (OP m k.bits))))
 | .negSucc _=>none
def Bj (op:BinOp) (k a:IntKind) (x y:Int):Option CV:=match op with
 | .shl=>match y with
  | .ofNat m=>QgH k x m
  | .negSucc _=>none
 | .shr=>match y with
  | .ofNat m=>QgI k x m
  | .negSucc _=>none
 | op=>oI (Bi k a) (W6 op k x y)
def gH {α:Type} (l:List α):Nat->Option α:=
 List.rec (motive:=λ_=>Nat->Option α) (λ_=>none) (λa _ b n=>Nat.rec (motive:=λ_=>Option α) (some a) (λn _=>b n) n) l
def ly {α:Type} (l:List α):Nat:=List.rec (motive:=λ_=>Nat) (nat_lit 0) (λ_ _ a=>Nat.succ a) l
def jA {α:Type} (f:α->Bool) (l:List α):Bool:=List.rec (motive:=λ_=>Bool) true (λa _ b=>Bool.rec (motive:=λ_=>Bool) false b (f a)) l
def Bk {α:Type} (f:α->Bool) (l:List α):Bool:=List.rec (motive:=λ_=>Bool) false (λa _ b=>Bool.rec (motive:=λ_=>Bool) b true (f a)) l
def sV {α β:Type} (f:α->β) (l:List α):List β:=List.rec (motive:=λ_=>List β) [] (λa _ b=>f a::b) l
def nm {α:Type} (x y:List α):List α:=List.rec (motive:=λ_=>List α) y (λa _ b=>a::b) x
def tV {α:Type} (n:Nat):List α->Option (List α):=
 Nat.rec (motive:=λ_=>List α->Option (List α)) (λ_=>some [])
  (λ_ b l=>List.rec (motive:=λ_=>Option (List α)) none (λa x _=>oB (b x) λz=>some (a::z)) l) n
def oo {α:Type} (n:Nat):List α->List α:=
 Nat.rec (motive:=λ_=>List α->List α) (λl=>l) (λ_ a l=>List.rec (motive:=λ_=>List α) [] (λ_ x _=>a x) l) n
def JH {α:Type} (b:List α):List α->Option (List α):=
 List.rec (motive:=λ_=>List α->Option (List α)) (λcs=>some cs)
  (λv _ a cs=>List.rec (motive:=λ_=>Option (List α)) none (λ_ cs _=>oB (a cs) λz=>some (v::z)) cs) b
def C5 {α:Type} (n:Nat) (b:List α):List α->Option (List α):=
 Nat.rec (motive:=λ_=>List α->Option (List α)) (λcs=>JH b cs)
  (λ_ a cs=>List.rec (motive:=λ_=>Option (List α)) none (λc cs _=>oB (a cs) λz=>some (c::z)) cs) n
def L9 {α:Type} (n:Nat) (z:List α):List α:=Nat.rec (motive:=λ_=>List α) [] (λ_ a=>nm z a) n
def an (k:IntKind) (a b:Int):Int:=k.wrap (a+b)
def da (k:IntKind) (a b:Int):Int:=k.wrap (a-b)
def iR (k:IntKind) (a b:Int):Int:=k.wrap (a*b)
def W7 (k:IntKind) (a b:Int):Int:=k.wrap (Int.tdiv a b)
def Qdu (a b:Int):Int:=Int.tmod a b
def ql (k:IntKind) (a b:Int):Int:=k.wrap (Int.ofNat (Nat.land (C4 k a) (C4 k b)))
def OB (k:IntKind) (a b:Int):Int:=k.wrap (Int.ofNat (Nat.lor (C4 k a) (C4 k b)))
def Qnt (k:IntKind) (a b:Int):Int:=k.wrap (Int.ofNat (Nat.xor (C4 k a) (C4 k b)))
def Qnu (k:IntKind) (a:Int):Int:=k.wrap (-a)
def Qnv (k:IntKind) (a:Int):Int:=k.wrap (Int.ofNat (Nat.xor (uH k-1) (C4 k a)))
def wc (k:IntKind) (a:Int):Int:=k.wrap a
def sW (k:IntKind) (x y:Int):Int:=k.wrap (x*2 ^ (min y.toNat k.bits))
def QgJ (k:IntKind) (x y:Int):Int:=x / 2 ^ (min y.toNat k.bits)
def az (a b:Int):Bool:=decide (a=b)
def ax (a b:Int):Bool:=decide (a<b)
def aC (a b:Int):Bool:=decide (a<=b)
def fN (a b:Int):Int:=if b<a then b else a
def imax (a b:Int):Int:=if a<b then b else a
def cj (b:Bool) (x y:Int):Int:=if b=true then x else y
def eO (s:List UInt8):Int:=s.length
def sat (s:List UInt8) (i:Int):Int:=(s.getD i.toNat 0).toNat
def we (s t:List UInt8):List UInt8:=s++t
def seq (s t:List UInt8):Bool:=decide (s=t)
def slt (s t:List UInt8):Bool:=decide (s<t)
def sX (a b:Bool):Bool:=a==b
def gt {α:Type} (d:α) (xs:List α) (i:Nat):α:=xs.getD i d
def ab {α:Type} (xs:List α):Int:=xs.length
def bW {α:Type} (xs:List α) (n:Int):List α:=xs.take n.toNat
def wg {α:Type} (xs:List α) (n:Int):List α:=xs.drop n.toNat
def cA {α:Type} (xs:List α) (i:Nat) (x:α):List α:=xs.set i x
def aZ {α:Type} (xs a:List α):List α:=xs++a
def np {α:Type} (n:Int) (x:α):List α:=List.replicate n.toNat x
def qD {α:Type} (xs:List α) (o n:Int):List α:=(xs.drop o.toNat).take n.toNat
def wi {α:Type} (xs:List α) (o n:Int) (a:List α):List α:=xs.take o.toNat++a.take n.toNat++xs.drop (o.toNat+(a.take n.toNat).length)
def BIG:Int:=9223372036854775807
def fits (n:Int) (bytes:Nat):Bool:=decide (n*bytes<=140737488355328)
def CU (k:IntKind):Int:=match k with
 | .i8=>-128 | .i16=>-32768 | .i32=>-2147483648 | .i64=>-9223372036854775808 | .u8=>0 | .u16=>0 | .u32=>0 | .u64=>0
def sY (k:IntKind):Int:=match k with
 | .i8=>127 | .i16=>32767 | .i32=>2147483647 | .i64=>9223372036854775807 | .u8=>255 | .u16=>65535 | .u32=>4294967295 | .u64=>18446744073709551615
def mv (k:IntKind) (n:Int):Bool:=aC (CU k) n&&aC n (sY k)
inductive AV (E:Nat->Type) where
 | bool (b:Bool)
 | lit (b:Bool)
 | int (k:IntKind) (n:Int)
 | num (k:IntKind) (n:Int)
 | str (s:List UInt8)
 | fD
 | ptr (b o:Nat)
 | kD (g o:Nat)
 | mj (b k i j:Nat)
 | nr (c:Nat) (x:E c) (j:Nat)
 | cF
 | own (b k:Nat) (n:Int)
 | pre (b k:Nat) (n:Int)
 | part (b k:Nat) (o n:Int)
 | grow (c:Nat) (xs:List (E c)) (b:Nat)
 | sub (b o n:Nat)
 | list (c:Nat) (xs:List (E c))
 | qm
 | map (r:Nat)
 | func (fn:Fn) (first captured:List (AV E))
 | nilFunc
 | iface (t:TypeId) (v:AV E)
 | nilIface
 | agg (cs:List (AV E))
 | tuple (vs:List (AV E))
structure Data where
 E:Nat->Type
 size:Nat->Nat
 aX:(c:Nat)->E c->List (AV E)
 dec:(c:Nat)->List (AV E)->Option (E c)
 W8:(c:Nat)->E c
 bc:Nat
 yL:List (E bc)->List UInt8
 ofB:List UInt8->List (E bc)
 ng:Nat
 gw:World->Prop
 gst:∀w w':World,(∀c,c<ng->w'.heap[c]?=w.heap[c]?)->gw w->gw w'
inductive AO (E:Nat->Type) where
 | cells (cs:List (AV E)) (elem:TypeId) (ro:Bool)
 | arr (c:Nat) (xs:List (E c)) (elem:TypeId) (ro:Bool)
 | tok (c:Nat) (elem:TypeId)
section
variable {E:Nat->Type}
def undef:AV E:=.tuple []
def Qnw (s:ByteArray):AV E:=.str s.data.toList
def OQ (v:Value):Option (AV E):=match v with
 | .bool b=>some (.lit b)
 | .int k n=>oI (Bool.and (Bool.not (W5 n (CU k))) (Bool.not (W5 (sY k) n))) (some (.num k n))
 | .string s=>oI (Nat.ble (ly s.data.toList) (nat_lit 9223372036854775807)) (some (Qnw s))
 | .nilFunc=>some .nilFunc
 | .nilIface=>some .nilIface
 | .pointer a=>match a with
  | none=>some .fD
  | _=>none
 | .map a=>match a with
  | none=>some .qm
  | _=>none
 | .slice a l c=>match a with
  | none=>oI (Bool.and (Nat.beq l (nat_lit 0)) (Nat.beq c (nat_lit 0))) (some .cF)
  | _=>none
 | .func f x y=>match f with
  | .func g=>oI (Bool.and (Nat.beq (ly x.toList) (nat_lit 0)) (Nat.beq (ly y.toList) (nat_lit 0))) (some (.func (.func g) [] []))
  | _=>none
 | _=>none
def W9 (l:List Value):Option (List (AV E)):=List.rec (motive:=λ_=>Option (List (AV E))) (some []) (λv _ b=>oB (OQ v) λa=>oB b λr=>some (a::r)) l
def ofV (v:Value):Option (AV E):=match v with
 | .agg cs=>oB (W9 cs.toList) λl=>some (.agg l)
 | .tuple cs=>oB (W9 cs.toList) λl=>some (.tuple l)
 | v=>OQ v
def C6 (v:CV):AV E:=match v with
 | .num k n=>.num k n
 | .lit b=>.lit b
def dg (v:AV E):List (AV E):=match v with
 | .agg cs=>cs
 | v=>[v]
def one (v:AV E):Bool:=match v with
 | .agg _=>false
 | .tuple _=>false
 | _=>true
def cT (v:AV E):C (IntKind×Int):=match v with
 | .int k n=>.ret (k,n)
 | .num k n=>.ret (k,n)
 | _=>.fail
def asN (v:AV E):C Nat:=match v with
 | .num _ n=>match n with
  | .ofNat m=>.ret m
  | .negSucc _=>.fail
 | _=>.fail
def yR (v:AV E):C (Bool×Bool):=match v with
 | .lit b=>.ret (b,true)
 | .bool b=>.ret (b,false)
 | _=>.fail
def asAgg (v:AV E):C (List (AV E)):=match v with
 | .agg cs=>.ret cs
 | _=>.fail
def OS (v:AV E):C (List (AV E)):=match v with
 | .tuple cs=>.ret cs
 | _=>.fail
def hZ (v:AV E):C (List UInt8):=match v with
 | .str s=>.ret s
 | _=>.fail
def gD (c a:Nat) (xs:List (E a)):C (List (E c)):=Decidable.rec (motive:=λ_=>C (List (E c))) (λ_=>.fail) (λh=>.ret (Eq.rec (motive:=λc _=>List (E c)) xs h)) (Nat.decEq a c)
def JI (c a:Nat) (x:E a):C (E c):=Decidable.rec (motive:=λ_=>C (E c)) (λ_=>.fail) (λh=>.ret (Eq.rec (motive:=λc _=>E c) x h)) (Nat.decEq a c)
end
structure St (E:Nat->Type) where
 h:T (AO E)
 nx:Nat
section
variable {E:Nat->Type}
def St.new (s:St E) (o:AO E):C (Nat×St E):=
 Nat.rec (motive:=λ_=>C (Nat×St E)) (av (cE (s.h.put (nat_lit 0) (some o))) λh=>.ret (nat_lit 0,⟨h,nat_lit 1⟩)) (λn _=>av (cE (s.h.put (Nat.succ n) (some o))) λh=>.ret (Nat.succ n,⟨h,Nat.succ (Nat.succ n)⟩)) s.nx
def St.set (s:St E) (b:Nat) (o:Option (AO E)):C (St E):=av (cE (s.h.put b o)) λh=>.ret ⟨h,s.nx⟩
def pF (s:St E) (b:Nat):C (List (AV E)):=av (cE (s.h.get b)) λo=>match o with
 | .cells cs _ _=>.ret cs
 | _=>.fail
def Qdv (s:St E) (b:Nat):C (List (AV E)×TypeId):=av (cE (s.h.get b)) λo=>match o with
 | .cells cs e ro=>Bool.rec (motive:=λ_=>C (List (AV E)×TypeId)) (.ret (cs,e)) .fail ro
 | _=>.fail
structure Ar (E:Nat->Type) where
 c:Nat
 xs:List (E c)
 e:TypeId
 ro:Bool
def kE (s:St E) (b:Nat):C (Ar E):=av (cE (s.h.get b)) λo=>match o with
 | .arr c xs e ro=>.ret ⟨c,xs,e,ro⟩
 | _=>.fail
def Qbm (s:St E) (b:Nat):C (Nat×TypeId):=av (cE (s.h.get b)) λo=>match o with
 | .tok c e=>.ret (c,e)
 | _=>.fail
end
def tW (d:TypeDesc):C TypeId:=match d with
 | .slice e=>.ret e
 | _=>.fail
def JJ (d:TypeDesc):C (List Field):=match d with
 | .struct a=>.ret a.toList
 | _=>.fail
def Qdw (d:TypeDesc):Bool:=match d with
 | .string=>true
 | _=>false
def Qbn (d:TypeDesc):Bool:=match d with
 | .slice _=>true
 | _=>false
def Qdx (d:TypeDesc):Bool:=match d with
 | .struct _=>true
 | .array _ _=>true
 | _=>false
def dU8 (d:TypeDesc):Bool:=match d with
 | .int k=>match k with
  | .u8=>true
  | _=>false
 | _=>false
section
variable (P:Program) (D:Data) (cd:TypeId->Option Nat)
def uI (t:TypeId):Option Nat:=Option.rec (motive:=λ_=>Option Nat) none (λi=>some i.size) (P.info? t)
def W' (t:TypeId):Option Nat:=Option.rec (motive:=λ_=>Option Nat) none (λi=>some i.bytes) (P.info? t)
def uJ (t:TypeId):C TypeDesc:=cE (P.underlying t)
def sz (t:TypeId):C Nat:=cE (uI P t)
def zeroOf (t:TypeId):C (AV D.E):=av (cE (P.info? t)) λi=>av (cE i.zero) λz=>cE (ofV z)
def ev (φ:T (AV D.E)) (x:Operand):C (AV D.E):=match x with
 | .tmp t=>cE (φ.get t)
 | .const v=>cE (ofV v)
 | .global g=>bB (Nat.ble (Nat.succ g) P.globals.size) (.ret (.kD g (nat_lit 0)))
 | .func f=>.ret (.func (.func f) [] [])
def OT (φ:T (AV D.E)) (l:List Operand):C (List (AV D.E)):=
 List.rec (motive:=λ_=>C (List (AV D.E))) (.ret []) (λx _ a=>av (ev P D φ x) λv=>av a λb=>.ret (v::b)) l
def j3 (t:TypeId) (cs:List (AV D.E)) (o:Nat):C (AV D.E):=av (uJ P t) λd=>
 bE (Qdx d) (av (sz P t) λk=>av (cE (tV k (oo o cs))) λl=>.ret (.agg l)) (cE (gH cs o))
def qJ (e:TypeId):C Nat:=av (cE (cd e)) λc=>av (sz P e) λk=>bB (Nat.beq k (D.size c)) (bB (Nat.ble (nat_lit 1) k) (.ret c))
def rowAt (a:Ar D.E) (i:Nat):List (AV D.E):=D.aX a.c (gt (D.W8 a.c) a.xs i)
def C7 (s:St D.E) (t:TypeId) (p:AV D.E):C (AV D.E):=match p with
 | .ptr b o=>av (pF s b) λcs=>j3 P D t cs o
 | .mj b _ i j=>av (kE s b) λa=>j3 P D t (rowAt D a i) j
 | .nr c x j=>j3 P D t (D.aX c x) j
 | _=>.fail
def sZ (s:St D.E) (b o:Nat) (a:List (AV D.E)):C (St D.E):=aI (Qdv s b) λcs e=>av (cE (C5 o a cs)) λcs=>s.set b (some (.cells cs e false))
def uK (c:Nat) (row:List (AV D.E)):C (D.E c):=cE (D.dec c row)
def OU (s:St D.E) (b i j:Nat) (d:List (AV D.E)):C (St D.E):=av (kE s b) λa=>match a with
 | ⟨c,xs,e,ro⟩=>Bool.rec (motive:=λ_=>C (St D.E)) (av (cE (C5 j d (D.aX c (gt (D.W8 c) xs i)))) λrow=>av (uK D c row) λx=>s.set b (some (.arr c (cA xs i x) e false))) .fail ro
def JK (s:St D.E) (t:TypeId) (p x:AV D.E):C (St D.E):=av (sz P t) λk=>bB (Nat.beq (ly (dg x)) k) (bB (jA one (dg x)) (match p with
 | .ptr b o=>sZ D s b o (dg x)
 | .mj b _ i j=>OU D s b i j (dg x)
 | _=>.fail))
def W_ (op:BinOp) (k:IntKind) (x y:Int):C (AV D.E):=match op with
 | .add=>.ret (.int k (an k x y))
 | .sub=>.ret (.int k (da k x y))
 | .mul=>.ret (.int k (iR k x y))
 | .quo=>ask (Bool.not (az y (.ofNat (nat_lit 0)))) (.ret (.int k (W7 k x y)))
 | .rem=>ask (Bool.not (az y (.ofNat (nat_lit 0)))) (.ret (.int k (Qdu x y)))
 | .and=>.ret (.int k (ql k x y))
 | .or=>.ret (.int k (OB k x y))
 | .xor=>.ret (.int k (Qnt k x y))
 | .eql=>.ret (.bool (az x y))
 | .neq=>.ret (.bool (Bool.not (az x y)))
 | .lss=>.ret (.bool (ax x y))
 | .leq=>.ret (.bool (aC x y))
 | .gtr=>.ret (.bool (ax y x))
 | .geq=>.ret (.bool (aC y x))
 | _=>.fail
def Xa (op:BinOp) (k a:IntKind) (x y:Int):C (AV D.E):=match op with
 | .shl=>ask (aC (.ofNat (nat_lit 0)) y) (.ret (.int k (sW k x y)))
 | .shr=>ask (aC (.ofNat (nat_lit 0)) y) (ask (aC (.ofNat (nat_lit 0)) x) (.ret (.int k (QgJ k x y))))
 | op=>bB (Bi k a) (W_ D op k x y)
def Bl (op:BinOp) (x y:List UInt8):C (AV D.E):=match op with
 | .add=>ask (aC (eO (we x y)) BIG) (.ret (.str (we x y)))
 | .eql=>.ret (.bool (seq x y))
 | .neq=>.ret (.bool (Bool.not (seq x y)))
 | .lss=>.ret (.bool (slt x y))
 | .leq=>.ret (.bool (Bool.not (slt y x)))
 | .gtr=>.ret (.bool (slt y x))
 | .geq=>.ret (.bool (Bool.not (slt x y)))
 | _=>.fail
def Bm (v:AV D.E):C Bool:=match v with
 | .fD=>.ret true
 | .ptr _ _=>.ret false
 | .kD _ _=>.ret false
 | .mj _ _ _ _=>.ret false
 | .nr _ _ _=>.ret false
 | .cF=>.ret true
 | .qm=>.ret true
 | .map _=>.ret false
 | .nilFunc=>.ret true
 | .func _ _ _=>.ret false
 | .nilIface=>.ret true
 | .iface _ _=>.ret false
 | .list _ xs=>ask (ax (.ofNat (nat_lit 0)) (ab xs)) (.ret false)
 | _=>.fail
def Gh (v:AV D.E):Nat:=match v with
 | .fD=>nat_lit 1 | .ptr _ _=>nat_lit 1 | .kD _ _=>nat_lit 1 | .mj _ _ _ _=>nat_lit 1 | .nr _ _ _=>nat_lit 1
 | .cF=>nat_lit 2 | .list _ _=>nat_lit 2 | .qm=>nat_lit 3 | .map _=>nat_lit 3 | .nilFunc=>nat_lit 4 | .func _ _ _=>nat_lit 4 | .nilIface=>nat_lit 5 | .iface _ _=>nat_lit 5
 | _=>nat_lit 0
def Qbo (d:TypeDesc):Nat:=match d with
 | .pointer _=>nat_lit 1
 | .slice _=>nat_lit 2
 | .map _ _=>nat_lit 3
 | .func _ _ _=>nat_lit 4
 | .interface _=>nat_lit 5
 | _=>nat_lit 6
def Qbp (d:TypeDesc) (x y:AV D.E):C (Bool×Bool):=bB (Nat.beq (Gh D x) (Qbo d)) (bB (Nat.beq (Gh D y) (Qbo d)) (av (Bm D x) λa=>av (Bm D y) λb=>bE (Bool.or a b) (.ret (Bool.and a b,true)) .fail))
def JL (x y:AV D.E):C (Bool×Bool):=match x with
 | .num k a=>match y with
  | .num c b=>bB (Bi k c) (.ret (WX a b,true))
  | .int c b=>bB (Bi k c) (.ret (az a b,false))
  | _=>.fail
 | .int k a=>aI (cT y) λc b=>bB (Bi k c) (.ret (az a b,false))
 | _=>.fail
def Gi (d:TypeDesc) (x y:AV D.E):C (Bool×Bool):=match d with
 | .bool=>aI (yR x) λa p=>aI (yR y) λb q=>.ret (sX a b,Bool.and p q)
 | .int _=>JL D x y
 | .string=>av (hZ x) λa=>av (hZ y) λb=>.ret (seq a b,false)
 | d=>Qbp D d x y
def C8 (a b:Bool×Bool):Bool×Bool:=match a with
 | (x,p)=>match b with
  | (y,q)=>bif p then(bif x then(y,q) else(false,true)) else(bif q then(bif y then(x,p) else(false,true)) else(Bool.and x y,false))
def vk (b:TypeId->AV D.E->AV D.E->C (Bool×Bool)) (e:TypeId) (k:Nat) (xs d:List (AV D.E)) (n:Nat):Nat->C (Bool×Bool):=
 Nat.rec (motive:=λ_=>Nat->C (Bool×Bool)) (λ_=>.ret (true,true))
  (λ_ a i=>av (j3 P D e xs (Nat.mul i k)) λx=>av (j3 P D e d (Nat.mul i k)) λy=>av (b e x y) λr=>av (a (Nat.succ i)) λc=>.ret (C8 r c)) n
def eqFields (ih:TypeId->AV D.E->AV D.E->C (Bool×Bool)) (xs ys:List (AV D.E)) (fs:List Field):C (Bool×Bool):=
 List.rec (motive:=λ_=>C (Bool×Bool)) (.ret (true,true))
  (λf _ ihf=>bE (decide (f.name= "_")) .fail (av (j3 P D f.type xs f.offset) λx=>av (j3 P D f.type ys f.offset) λy=>av (ih f.type x y) λr=>av ihf λr'=>.ret (C8 r r'))) fs
def eqD (b:TypeId->AV D.E->AV D.E->C (Bool×Bool)) (t:TypeId) (d:TypeDesc) (x y:AV D.E):C (Bool×Bool):=match d with
 | .struct c=>av (asAgg x) λxs=>av (asAgg y) λa=>bE (P.stoodInHeld t) .fail (eqFields P D b xs a c.toList)
 | .array len e=>av (asAgg x) λxs=>av (asAgg y) λa=>av (sz P e) λk=>vk P D b e k xs a len (nat_lit 0)
 | d=>Gi D d x y
def OC (n:Nat):TypeId->AV D.E->AV D.E->C (Bool×Bool):=
 Nat.rec (motive:=λ_=>TypeId->AV D.E->AV D.E->C (Bool×Bool)) (λ_ _ _=>.fail) (λ_ a t x y=>av (uJ P t) λd=>eqD P D a t d x y) n
def OV (t:TypeId) (x y:AV D.E):C (Bool×Bool):=match x with
 | .agg _=>bE (P.eqGuardType P.depth t) .fail (OC P D (nat_lit 4) t x y)
 | .nilIface=>match y with
  | .nilIface=>.fail
  | _=>OC P D (nat_lit 4) t x y
 | _=>OC P D (nat_lit 4) t x y
def mkT (b c:Bool):AV D.E:=bif c then .lit b else .bool b
def OW (op:BinOp) (t:TypeId) (x y:AV D.E):C (AV D.E):=match op with
 | .eql=>aI (OV P D t x y) λr c=>.ret (mkT D r c)
 | .neq=>aI (OV P D t x y) λr c=>.ret (mkT D (Bool.not r) c)
 | _=>.fail
def QgO (op:BinOp) (t:TypeId) (x y:AV D.E):C (AV D.E):=match x with
 | .num k a=>match y with
  | .num c b=>av (cE (Bj op k c a b)) λv=>.ret (C6 v)
  | .int c b=>Xa D op k c a b
  | _=>.fail
 | .int k a=>aI (cT y) λc b=>Xa D op k c a b
 | .str a=>av (hZ y) λb=>Bl D op a b
 | x=>OW P D op t x y
def isConst (x:Operand):Bool:=match x with
 | .const _=>true
 | _=>false
def Qdy (v:AV D.E):Bool:=match v with
 | .nilIface=>true
 | _=>false
def QgP (d:TypeDesc):Bool:=match d with
 | .interface _=>true
 | _=>false
def nnA (op:BinOp):C (AV D.E):=match op with
 | .eql=>.ret (.lit true)
 | .neq=>.ret (.lit false)
 | _=>.fail
def QgQ (op:BinOp) (t:TypeId) (a b:Operand) (x y:AV D.E):C (AV D.E):=bE (Bool.and (Bool.or (isConst a) (isConst b)) (Bool.and (Qdy D x) (Qdy D y))) (av (uJ P t) λd=>bB (QgP d) (nnA D op)) (QgO P D op t x y)
def unA (op:UnOp) (x:AV D.E):C (AV D.E):=match op with
 | .neg=>match x with
  | .num k n=>av (cE (OO k (rI k (Int.neg n)))) λv=>.ret (C6 v)
  | .int k n=>.ret (.int k (Qnu k n))
  | _=>.fail
 | .xor=>match x with
  | .num k n=>av (cE (L8 k (Nat.xor (Nat.sub (uH k) (nat_lit 1)) (C4 k n)))) λv=>.ret (C6 v)
  | .int k n=>.ret (.int k (Qnv k n))
  | _=>.fail
 | .not=>aI (yR x) λb c=>.ret (mkT D (Bool.not b) c)
 | _=>.fail
def QgR (c:Nat) (cs:List (AV D.E)) (n:Nat):Nat->C (List (D.E c)):=
 Nat.rec (motive:=λ_=>Nat->C (List (D.E c))) (λ_=>.ret []) (λ_ a o=>av (cE (gH cs o)) λv=>av (cE (D.dec c [v])) λx=>av (a (Nat.succ o)) λr=>.ret (x::r)) n
def rowsOf (s:St D.E) (c:Nat) (x:AV D.E):C (List (D.E c)):=match x with
 | .list d xs=>gD c d xs
 | .grow d xs _=>gD c d xs
 | .own b _ _=>av (kE s b) λa=>match a with
  | ⟨d,xs,_,_⟩=>gD c d xs
 | .pre b _ n=>av (kE s b) λa=>match a with
  | ⟨d,xs,_,_⟩=>gD c d (bW xs n)
 | .part b _ o n=>av (kE s b) λa=>match a with
  | ⟨d,xs,_,_⟩=>gD c d (qD xs o n)
 | .cF=>.ret []
 | .str l=>gD c D.bc (D.ofB l)
 | .sub b o n=>bB (Nat.beq (D.size c) (nat_lit 1)) (av (pF s b) λcs=>QgR D c cs n o)
 | _=>.fail
def OX (x:AV D.E):C (AV D.E):=match x with
 | .list _ xs=>.ret (.int .i64 (ab xs))
 | .grow _ xs _=>.ret (.int .i64 (ab xs))
 | .own _ _ n=>.ret (.int .i64 n)
 | .pre _ _ n=>.ret (.int .i64 n)
 | .part _ _ _ n=>.ret (.int .i64 n)
 | .cF=>.ret (.num .i64 (.ofNat (nat_lit 0)))
 | .sub _ _ n=>av (cE (mkN n)) λv=>.ret (C6 v)
 | _=>.fail
def QgS (t:TypeId) (x:AV D.E):C (AV D.E):=av (uJ P t) λd=>match d with
 | .string=>av (hZ x) λl=>.ret (.int .i64 (eO l))
 | .slice _=>OX D x
 | .array n _=>av (cE (mkN n)) λv=>bB (Nat.ble n (nat_lit 1099511627776)) (.ret (C6 v))
 | _=>.fail
def OY (s:St D.E) (c:Nat) (xs:List (D.E c)) (e:TypeId):C (AV D.E×St D.E):=aI (s.new (.arr c xs e false)) λb s=>.ret (.own b (D.size c) (ab xs),s)
def Bn (s:St D.E) (c:Nat) (xs:List (D.E c)) (e:TypeId):C (AV D.E×St D.E):=aI (s.new (.tok c e)) λb s=>.ret (.grow c xs b,s)
def newRow (mu:Bool) (s:St D.E) (c:Nat) (xs:List (D.E c)) (e:TypeId):C (AV D.E×St D.E):=bif mu then OY D s c xs e else Bn D s c xs e
def Gj (d:Nat) (s:St D.E) (c:Nat) (e:TypeId) (b:Nat) (cut:List (D.E c)->List (D.E c)) (f:List (D.E c)):C (AV D.E×St D.E):=av (kE s b) λa=>match a with
 | ⟨g,xs,h,ro⟩=>Bool.rec (motive:=λ_=>C (AV D.E×St D.E)) (bB (Nat.beq h e) (av (gD c g xs) λxs=>ask (fits (ab (aZ (cut xs) f)) d) (av (s.set b none) λs=>aI (s.new (.arr c (aZ (cut xs) f) e false)) λb s=>.ret (.own b (D.size c) (ab (aZ (cut xs) f)),s)))) .fail ro
def C9 (mu:Bool) (a:Nat) (s:St D.E) (c:Nat) (e:TypeId) (d:AV D.E) (f:List (D.E c)):C (AV D.E×St D.E):=match d with
 | .cF=>ask (fits (ab f) a) (newRow D mu s c f e)
 | .grow g xs b=>aI (Qbm s b) λc2 h=>bB (Nat.beq c2 c) (bB (Nat.beq h e) (av (gD c g xs) λxs=>ask (fits (ab (aZ xs f)) a) (av (s.set b none) λs=>Bn D s c (aZ xs f) e)))
 | .own b _ _=>Gj D a s c e b (λxs=>xs) f
 | .pre b _ n=>Gj D a s c e b (λxs=>bW xs n) f
 | _=>.fail
def JM (mu:Bool) (s:St D.E) (t u:TypeId) (d x:AV D.E):C (AV D.E×St D.E):=av (uJ P t) λb=>av (tW b) λe=>av (uJ P u) λa=>bB (Bool.or (Qbn a) (Qdw a))
 (av (qJ P D cd e) λc=>av (cE (W' P e)) λbytes=>bB (Nat.ble bytes (nat_lit 65536)) (bB (Nat.ble (nat_lit 1) bytes) (av (zeroOf P D e) λz=>bB (Nat.beq (ly (dg z)) (D.size c)) (av (rowsOf D s c x) λf=>C9 D mu bytes s c e d f))))
def JN (l:List UInt8) (cs:List (AV D.E)):Nat->C (List (AV D.E)):=
 List.rec (motive:=λ_=>Nat->C (List (AV D.E))) (λ_=>.ret []) (λv _ a i=>aI (cT v) λk n=>bB (Bi k .u8) (av (a (Nat.succ i)) λr=>.ret (.int .u8 (cj (ax (.ofNat i) (eO l)) (sat l (.ofNat i)) n)::r))) cs
def Bo (s:St D.E) (b:Nat) (o n:Int) (x:AV D.E) (c:Nat):C (AV D.E×St D.E):=av (kE s b) λa=>match a with
 | ⟨d,xs,f,ro⟩=>Bool.rec (motive:=λ_=>C (AV D.E×St D.E)) (av (rowsOf D s d x) λe=>bB (Nat.beq c d) (av (s.set b (some (.arr d (wi xs o n e) f false))) λs=>.ret (.int .i64 (fN n (ab e)),s))) .fail ro
def Qbq (s:St D.E) (t:TypeId) (d x:AV D.E):C (AV D.E×St D.E):=av (uJ P t) λh=>av (tW h) λe=>av (qJ P D cd e) λc=>match d with
 | .own b _ n=>Bo D s b (.ofNat (nat_lit 0)) n x c
 | .pre b _ n=>Bo D s b (.ofNat (nat_lit 0)) n x c
 | .part b _ o n=>Bo D s b o n x c
 | .sub b o n=>bB (Nat.beq c D.bc) (bB (Nat.ble n (nat_lit 1000)) (match x with
  | .sub g i a=>av (pF s g) λcs=>av (cE (tV (OP a n) (oo i cs))) λl=>bB (jA one l) (av (sZ D s b o l) λs=>av (cE (mkN (OP a n))) λv=>.ret (C6 v,s))
  | x=>av (rowsOf D s D.bc x) λf=>av (pF s b) λcs=>av (cE (tV n (oo o cs))) λl=>av (JN D (D.yL f) l (nat_lit 0)) λl=>av (sZ D s b o l) λs=>.ret (.int .i64 (fN (.ofNat n) (eO (D.yL f))),s)))
 | _=>.fail
def evO (φ:T (AV D.E)) (x:Option Operand):C (Option (AV D.E)):=
 Option.rec (motive:=λ_=>C (Option (AV D.E))) (.ret none) (λx=>av (ev P D φ x) λv=>.ret (some v)) x
def zI:Int:=.ofNat (nat_lit 0)
def QgT {α:Type} (xs:List α) (hi:Option (AV D.E)):C (List α):=Option.rec (motive:=λ_=>C (List α)) (.ret xs) (λv=>aI (cT v) λ_ h=>ask (aC zI h) (ask (aC h (ab xs)) (.ret (bW xs h)))) hi
def QgU {α:Type} (xs:List α) (lo:Option (AV D.E)):C (List α):=Option.rec (motive:=λ_=>C (List α)) (.ret xs) (λv=>aI (cT v) λ_ l=>ask (aC zI l) (ask (aC l (ab xs)) (.ret (wg xs l)))) lo
def QgV {α:Type} (xs:List α) (hi mx:Option (AV D.E)):C Unit:=Option.rec (motive:=λ_=>C Unit) (.ret ()) (λv=>aI (cT v) λ_ m=>av (cE hi) λhi=>aI (cT hi) λ_ h=>ask (aC h m) (ask (aC m (ab xs)) (.ret ()))) mx
def L' {α:Type} (xs:List α) (lo hi mx:Option (AV D.E)):C (List α):=av (QgV D xs hi mx) λ_=>av (QgT D xs hi) λa=>QgU D a lo
def OZ (lo:Option (AV D.E)):Bool:=Option.rec (motive:=λ_=>Bool) true (λv=>match v with
 | .num _ n=>WX n zI
 | _=>false) lo
def oK (x:Option (AV D.E)) (d hi:Nat):C Nat:=Option.rec (motive:=λ_=>C Nat) (.ret d) (λv=>av (asN v) λm=>bB (Nat.ble m hi) (.ret m)) x
def iz (x:Option (AV D.E)) (d hi:Int):C Int:=Option.rec (motive:=λ_=>C Int) (.ret d) (λv=>aI (cT v) λ_ m=>ask (aC zI m) (ask (aC m hi) (.ret m))) x
def zr (b k:Nat) (l h:Int) (z:Bool):AV D.E:=bif z then .pre b k h else .part b k l (h-l)
def Gk (b k:Nat) (o l h:Int) (z:Bool):AV D.E:=bif z then .part b k o h else .part b k (o+l) (h-l)
def O0 (t:TypeId) (x:AV D.E) (lo hi mx:Option (AV D.E)):C (AV D.E):=av (uJ P t) λd=>match d with
 | .string=>bB (Option.isNone mx) (av (hZ x) λl=>av (L' D l lo hi mx) λr=>.ret (.str r))
 | .slice e=>av (sz P e) λk=>match x with
  | .list c xs=>bB (Nat.beq k (D.size c)) (av (L' D xs lo hi mx) λr=>.ret (.list c r))
  | .grow c xs _=>bB (Nat.beq k (D.size c)) (av (L' D xs lo hi mx) λr=>.ret (.list c r))
  | .cF=>av (oK D mx (nat_lit 0) (nat_lit 0)) λ_=>av (oK D hi (nat_lit 0) (nat_lit 0)) λ_=>av (oK D lo (nat_lit 0) (nat_lit 0)) λ_=>bE (Bool.and (Option.isSome mx) (Option.isNone hi)) .fail (.ret .cF)
  | .own b a n=>bB (Bool.and (Nat.beq a k) (Option.isNone mx)) (av (iz D hi n n) λh=>av (iz D lo zI h) λl=>.ret (zr D b k l h (OZ D lo)))
  | .pre b a n=>bB (Bool.and (Nat.beq a k) (Option.isNone mx)) (av (iz D hi n n) λh=>av (iz D lo zI h) λl=>.ret (zr D b k l h (OZ D lo)))
  | .part b a o n=>bB (Bool.and (Nat.beq a k) (Option.isNone mx)) (av (iz D hi n n) λh=>av (iz D lo zI h) λl=>.ret (Gk D b k o l h (OZ D lo)))
  | .sub b o n=>av (oK D hi n n) λh=>av (oK D lo (nat_lit 0) h) λl=>bB (Bool.and (Nat.beq k (nat_lit 1)) (Option.isNone mx)) (.ret (.sub b (Nat.add o l) (Nat.sub h l)))
  | _=>.fail
 | .array n e=>match x with
  | .ptr b o=>av (sz P e) λk=>bB (Nat.beq k (nat_lit 1)) (bB (Bool.and (Nat.ble n (nat_lit 1099511627776)) (Option.isNone mx)) (av (oK D hi n n) λh=>av (oK D lo (nat_lit 0) h) λl=>.ret (.sub b (Nat.add o l) (Nat.sub h l))))
  | _=>.fail
 | _=>.fail
def wj (place:Nat->C (Nat×Nat)) (φ:T (AV D.E)) (b:List (Nat×Operand)):List (AV D.E)->C (List (AV D.E)):=
 List.rec (motive:=λ_=>List (AV D.E)->C (List (AV D.E))) (λcs=>.ret cs)
  (λp _ a cs=>aI (.ret p) λi x=>aI (place i) λoff size=>av (ev P D φ x) λv=>bB (Nat.beq (ly (dg v)) size) (av (cE (C5 off (dg v) cs)) λcs=>a cs)) b
def O3 (a:List Field) (i:Nat):C (Nat×Nat):=av (cE (gH a i)) λf=>av (sz P f.type) λk=>.ret (f.offset,k)
def Qbr (a:List Field):Bool:=jA (λf=>Option.rec (motive:=λ_=>Bool) false (λ_=>true) (uI P f.type)) a
def JO (φ:T (AV D.E)) (t:TypeId) (parts:List (Nat×Operand)):C (AV D.E):=av (zeroOf P D t) λz=>av (uJ P t) λd=>match d with
 | .struct a=>bB (Qbr P a.toList) (av (wj P D (O3 P a.toList) φ parts (dg z)) λcs=>.ret (.agg cs))
 | .array _ e=>av (sz P e) λk=>av (wj P D (λi=>.ret (Nat.mul i k,k)) φ parts (dg z)) λcs=>.ret (.agg cs)
 | _=>.fail
def Gl (c k:Nat) (n:Nat):List (AV D.E)->C (List (D.E c)):=
 Nat.rec (motive:=λ_=>List (AV D.E)->C (List (D.E c))) (λ_=>.ret [])
  (λ_ a cs=>av (cE (tV k cs)) λrow=>av (uK D c row) λx=>av (a (oo k cs)) λr=>.ret (x::r)) n
def zt (mu:Bool) (s:St D.E) (φ:T (AV D.E)) (t:TypeId) (len:Nat) (parts:List (Nat×Operand)):C (AV D.E×St D.E):=av (uJ P t) λd=>av (tW d) λe=>av (qJ P D cd e) λc=>av (zeroOf P D e) λz=>
 bB (Nat.beq (ly (dg z)) (D.size c)) (bB (Nat.ble (Nat.mul len (D.size c)) (nat_lit 100000))
  (av (wj P D (λi=>.ret (Nat.mul i (D.size c),D.size c)) φ parts (L9 len (dg z))) λcs=>bB (jA one cs) (av (Gl D c (D.size c) len cs) λxs=>newRow D mu s c xs e)))
def QgW (v:AV D.E):Bool:=match v with
 | .num _ n=>WX n zI
 | _=>false
def C_ (mu:Bool) (s:St D.E) (t:TypeId) (l c:AV D.E):C (AV D.E×St D.E):=av (uJ P t) λd=>av (tW d) λe=>aI (cT l) λb n=>bB (Bi b .i64) (aI (cT c) λf m=>bB (Bi f .i64) (av (qJ P D cd e) λc=>av (cE (W' P e)) λa=>av (zeroOf P D e) λz=>
 bB (Nat.beq (ly (dg z)) (D.size c)) (bB (Nat.ble a (nat_lit 65536)) (av (uK D c (dg z)) λx=>ask (aC zI n) (ask (aC n m) (ask (fits m a)
  (bE (Bool.and (QgW D l) (Bool.not mu)) (Bn D s c [] e) (OY D s c (np n x) e))))))))
def O4 (x:AV D.E):C (AV D.E):=match x with
 | .ptr _ _=>.ret x
 | .kD _ _=>.ret x
 | .mj _ _ _ _=>.ret x
 | .nr _ _ _=>.ret x
 | .func f _ _=>match f with
  | .func _=>.ret x
  | _=>.fail
 | _=>.fail
def vp (d:TypeDesc) (n:Int) (closed:Bool):C (AV D.E):=match d with
 | .int k=>bif closed then(av (cE (OO k (rI k n))) λv=>.ret (C6 v)) else .ret (.int k (wc k n))
 | .string=>.ret (.str (Utf8.encode n).data.toList)
 | _=>.fail
def Gm (s:St D.E) (d a:TypeDesc) (x:AV D.E):C (AV D.E×St D.E):=av (tW d) λe=>match a with
  | .string=>av (uJ P e) λb=>bB (dU8 b) (av (qJ P D cd e) λc=>bB (Nat.beq c D.bc) (av (rowsOf D s D.bc x) λxs=>.ret (.str (D.yL xs),s)))
  | _=>.fail
def Xb (s:St D.E) (src dst:TypeId) (f c:TypeDesc) (b k:Nat) (n:Int):C (AV D.E×St D.E):=av (tW f) λ_=>av (tW c) λe=>bB (Nat.beq src dst) (bB (Nat.beq k (nat_lit 1)) (av (uJ P e) λd=>bB (dU8 d) (av (kE s b) λa=>bE a.ro .fail (ask (ax (.ofNat (nat_lit 0)) n) (.ret (.own b k n,s))))))
def O5 (mu:Bool) (s:St D.E) (src dst:TypeId) (x:AV D.E):C (AV D.E×St D.E):=av (uJ P src) λd=>av (uJ P dst) λa=>match x with
 | .int _ n=>av (vp D a n false) λv=>.ret (v,s)
 | .num _ n=>av (vp D a n true) λv=>.ret (v,s)
 | .str b=>bB (Qdw d) (match a with
  | .string=>.ret (.str b,s)
  | .slice e=>av (uJ P e) λf=>bB (dU8 f) (av (qJ P D cd e) λc=>av (gD c D.bc (D.ofB b)) λxs=>newRow D mu s c xs e)
  | _=>.fail)
 | .own b k n=>bE (Qbn a) (Xb P D s src dst d a b k n) (Gm P D cd s d a (.own b k n))
 | x=>Gm P D cd s d a x
def JP (t:TypeId) (x:AV D.E):C (AV D.E):=av (uJ P t) λd=>match d with
 | .interface _=>.fail
 | _=>.ret (.iface t x)
def tY (t:TypeId) (x:AV D.E) (f:Nat):C (AV D.E):=av (uJ P t) λd=>av (JJ d) λa=>av (cE (gH a f)) λfd=>av (sz P fd.type) λk=>bB (Nat.ble (nat_lit 1) k) (match x with
 | .ptr b o=>.ret (.ptr b (Nat.add o fd.offset))
 | .kD b o=>.ret (.kD b (Nat.add o fd.offset))
 | .mj b n i j=>.ret (.mj b n i (Nat.add j fd.offset))
 | .nr c y j=>.ret (.nr c y (Nat.add j fd.offset))
 | _=>.fail)
def JQ (t:TypeId) (x:AV D.E) (f:Nat):C (AV D.E):=av (uJ P t) λd=>av (JJ d) λa=>av (asAgg x) λcs=>av (cE (gH a f)) λfd=>j3 P D fd.type cs fd.offset
def zu (t:TypeId) (x i:AV D.E):C (AV D.E):=av (uJ P t) λd=>match d with
 | .slice e=>av (sz P e) λk=>aI (cT i) λ_ i=>match x with
  | .list c xs=>bB (Nat.beq k (D.size c)) (ask (aC zI i) (ask (ax i (ab xs)) (.ret (.nr c (gt (D.W8 c) xs i.toNat) (nat_lit 0)))))
  | .grow c xs _=>bB (Nat.beq k (D.size c)) (ask (aC zI i) (ask (ax i (ab xs)) (.ret (.nr c (gt (D.W8 c) xs i.toNat) (nat_lit 0)))))
  | .own b a n=>bB (Nat.beq a k) <| ask (aC zI i) (ask (ax i n) (.ret (.mj b k i.toNat (nat_lit 0))))
  | .pre b a n=>bB (Nat.beq a k) <| ask (aC zI i) (ask (ax i n) (.ret (.mj b k i.toNat (nat_lit 0))))
  | .part b a o n=>bB (Nat.beq a k) <| ask (aC zI i) (ask (ax i n) (.ret (.mj b k (o+i).toNat (nat_lit 0))))
  | _=>.fail
 | .array len e=>av (sz P e) λk=>bB (Nat.ble (nat_lit 1) k) (av (asN i) λi=>bB (Nat.ble (Nat.succ i) len) (match x with
  | .ptr b o=>.ret (.ptr b (Nat.add o (Nat.mul i k)))
  | .mj b n m j=>.ret (.mj b n m (Nat.add j (Nat.mul i k)))
  | .nr c y j=>.ret (.nr c y (Nat.add j (Nat.mul i k)))
  | _=>.fail))
 | _=>.fail
def JR (t:TypeId) (x i:AV D.E):C (AV D.E):=av (uJ P t) λd=>match d with
 | .string=>aI (cT i) λ_ i=>av (hZ x) λl=>ask (aC zI i) (ask (ax i (eO l)) (.ret (.int .u8 (sat l i))))
 | .array len e=>av (sz P e) λk=>av (asN i) λi=>av (asAgg x) λcs=>bB (Nat.ble (Nat.succ i) len) (j3 P D e cs (Nat.mul i k))
 | _=>.fail
def zv (x:AV D.E) (i:Nat):C (AV D.E):=av (OS x) λl=>cE (gH l i)
def vq (s:St D.E) (b:Nat) (o n:Int) (k:Nat) (z:List (AV D.E)):C (AV D.E×St D.E):=av (kE s b) λa=>match a with
 | ⟨c,xs,d,ro⟩=>bB (Nat.beq (ly z) (D.size c)) (bB (Nat.beq k (D.size c)) (av (uK D c z) λy=>Bool.rec (motive:=λ_=>C (AV D.E×St D.E)) (av (s.set b (some (.arr c (wi xs o n (np n y)) d false))) λs=>.ret (undef,s)) .fail ro))
def JS (s:St D.E) (t:TypeId) (x:AV D.E):C (AV D.E×St D.E):=av (uJ P t) λd=>av (tW d) λe=>av (zeroOf P D e) λz=>av (sz P e) λk=>match x with
 | .own b _ n=>vq D s b zI n k (dg z)
 | .pre b _ n=>vq D s b zI n k (dg z)
 | .part b _ o n=>vq D s b o n k (dg z)
 | .cF=>.ret (undef,s)
 | _=>.fail
def oL (mn:Bool) (e:List (AV D.E)):AV D.E->C (AV D.E):=
 List.rec (motive:=λ_=>AV D.E->C (AV D.E)) (λv=>.ret v) (λy _ c x=>aI (cT x) λk a=>aI (cT y) λd b=>bB (Bi k d) (c (.int k (bif mn then fN a b else imax a b)))) e
def iA (s:St D.E) (x:C (AV D.E)):C (AV D.E×St D.E):=av x λv=>.ret (v,s)
def QgX (x:C (St D.E)):C (AV D.E×St D.E):=av x λs=>.ret (undef,s)
def settle (v:AV D.E):C (AV D.E):=match v with
 | .bool b=>.split b (.ret (.lit true)) (.ret (.lit false))
 | v=>.ret v
def Da (v:AV D.E):C Bool:=match v with
 | .lit b=>.ret b
 | .bool b=>.split b (.ret true) (.ret false)
 | _=>.fail
def Qdz (c a b:AV D.E):C (AV D.E):=av (Da D c) λc=>bE c (.ret a) (.ret b)
def O6 (s:St D.E) (e:TypeId) (cs:List (AV D.E)):C (AV D.E×St D.E):=bB (jA one cs) (aI (s.new (.cells cs e false)) λb s=>.ret (.ptr b (nat_lit 0),s))
end
abbrev yM (E:Nat->Type):=FuncId->List (AV E)->St E->C (AV E×St E)
def Xc {E:Nat->Type}:yM E:=λ_ _ _=>.fail
section
variable (P:Program) (D:Data) (cd:TypeId->Option Nat)
def kr (mu:Bool) (b:Builtin) (s:St D.E) (c:List TypeId) (a:List (AV D.E)):C (AV D.E×St D.E):=match b with
 | .append=>av (cE (gH c (nat_lit 0))) λt=>av (cE (gH c (nat_lit 1))) λu=>av (cE (gH a (nat_lit 0))) λd=>av (cE (gH a (nat_lit 1))) λx=>JM P D cd mu s t u d x
 | .copy=>av (cE (gH c (nat_lit 0))) λt=>av (cE (gH a (nat_lit 0))) λd=>av (cE (gH a (nat_lit 1))) λx=>Qbq P D cd s t d x
 | .len=>av (cE (gH c (nat_lit 0))) λt=>av (cE (gH a (nat_lit 0))) λx=>iA D s (QgS P D t x)
 | .min=>av (cE (gH a (nat_lit 0))) λx=>iA D s (oL D true (oo (nat_lit 1) a) x)
 | .max=>av (cE (gH a (nat_lit 0))) λx=>iA D s (oL D false (oo (nat_lit 1) a) x)
 | .clear=>av (cE (gH c (nat_lit 0))) λt=>av (cE (gH a (nat_lit 0))) λx=>JS P D s t x
 | _=>.fail
def QgY (v:AV D.E):C (FuncId×List (AV D.E)×List (AV D.E)):=match v with
 | .func fn first captured=>match fn with
  | .func f=>.ret (f,first,captured)
  | _=>.fail
 | _=>.fail
def Qbs (φ:T (AV D.E)) (x:Operand) (c:Call):C (FuncId×List (AV D.E)):=av (ev P D φ x) λv=>aI (QgY D v) λf p=>av (OT P D φ c.args.toList) λargs=>match p with
 | (a,cs)=>.ret (f,nm a (nm args cs))
def QgZ (mu:Bool) (c:Callee) (ex:yM D.E) (s:St D.E) (φ:T (AV D.E)) (cl:Call):C (AV D.E×St D.E):=match c with
 | .value x=>aI (Qbs P D φ x cl) λf args=>ex f args s
 | .builtin b=>av (OT P D φ cl.args.toList) λa=>kr P D cd mu b s cl.argTypes.toList a
 | _=>.fail
def ei (mu:Bool) (op:Op) (ex:yM D.E) (s:St D.E) (φ:T (AV D.E)):C (AV D.E×St D.E):=match op with
 | .move x=>iA D s (ev P D φ x)
 | .assign x=>iA D s (ev P D φ x)
 | .pick c a b=>av (ev P D φ c) λc=>av (ev P D φ a) λa=>av (ev P D φ b) λb=>iA D s (Qdz D c a b)
 | .alloc e=>av (zeroOf P D e) λz=>O6 D s e (dg z)
 | .box e x=>av (ev P D φ x) λv=>O6 D s e (dg v)
 | .build t parts=>iA D s (JO P D φ t parts.toList)
 | .buildSlice t len parts=>zt P D cd mu s φ t len parts.toList
 | .load t a=>av (ev P D φ a) λv=>iA D s (C7 P D s t v)
 | .store t a x=>av (ev P D φ a) λa=>av (ev P D φ x) λx=>QgX D (JK P D s t a x)
 | .nilCheck x=>av (ev P D φ x) λv=>iA D s (O4 D v)
 | .binOp op t d g _=>av (ev P D φ d) λx=>av (ev P D φ g) λy=>iA D s (QgQ P D op t d g x y)
 | .unOp op _ x=>av (ev P D φ x) λx=>iA D s (unA D op x)
 | .convert a b x=>av (ev P D φ x) λx=>O5 P D cd mu s a b x
 | .makeInterface t x=>av (ev P D φ x) λx=>iA D s (JP P D t x)
 | .makeFunc fn first captured=>av (OT P D φ first.toList) λf=>av (OT P D φ captured.toList) λc=>.ret (.func fn f c,s)
 | .makeSlice t l c=>av (ev P D φ l) λl=>av (ev P D φ c) λc=>C_ P D cd mu s t l c
 | .slice t x lo hi mx=>av (ev P D φ x) λx=>av (evO P D φ lo) λlo=>av (evO P D φ hi) λhi=>av (evO P D φ mx) λmx=>iA D s (O0 P D t x lo hi mx)
 | .fieldAddr t x f=>av (ev P D φ x) λx=>iA D s (tY P D t x f)
 | .field t x f=>av (ev P D φ x) λx=>iA D s (JQ P D t x f)
 | .indexAddr t x i=>av (ev P D φ x) λx=>av (ev P D φ i) λi=>iA D s (zu P D t x i)
 | .index t x i=>av (ev P D φ x) λx=>av (ev P D φ i) λi=>iA D s (JR P D t x i)
 | .extract t i=>av (ev P D φ t) λx=>iA D s (zv D x i)
 | .call c=>QgZ P D cd mu c.callee ex s φ c
 | _=>.fail
end
def QdA (d:TypeDesc):Option TypeId:=match d with
 | .slice e=>some e
 | _=>none
def Qg0 (d:TypeDesc):Option (TypeId×TypeId):=match d with
 | .map k v=>some (k,v)
 | _=>none
section
variable (P:Program)
def Qg1 (b:Builtin) (a:List TypeId):Nat:=match b with
 | .len=>match a with
  | t::_=>Option.rec (motive:=λ_=>Nat) (nat_lit 3) (λd=>Option.rec (motive:=λ_=>Nat) (nat_lit 1) (λ_=>nat_lit 2) (Qg0 d)) (P.underlying t)
  | []=>nat_lit 3
 | .min=>nat_lit 1
 | .max=>nat_lit 1
 | _=>nat_lit 3
def iB (o:Oper):Nat:=match o.op with
 | .move _=>nat_lit 1
 | .assign _=>nat_lit 1
 | .pick _ _ _=>nat_lit 1
 | .alloc _=>nat_lit 1
 | .box _ _=>nat_lit 1
 | .build _ _=>nat_lit 1
 | .buildSlice _ _ _=>nat_lit 1
 | .nilCheck _=>nat_lit 1
 | .binOp _ _ _ _ _=>nat_lit 1
 | .unOp _ _ _=>nat_lit 1
 | .makeInterface _ _=>nat_lit 1
 | .makeFunc _ _ _=>nat_lit 1
 | .makeMap _ _=>nat_lit 1
 | .makeSlice _ _ _=>nat_lit 1
 | .slice _ _ _ _ _=>nat_lit 1
 | .fieldAddr _ _ _=>nat_lit 1
 | .field _ _ _=>nat_lit 1
 | .indexAddr _ _ _=>nat_lit 1
 | .index _ _ _=>nat_lit 1
 | .extract _ _=>nat_lit 1
 | .load _ _=>nat_lit 2
 | .lookup _ _ _ _=>nat_lit 2
 | .convert src _ _=>Option.rec (motive:=λ_=>Nat) (nat_lit 3) (λd=>Option.rec (motive:=λ_=>Nat) (nat_lit 1) (λ_=>nat_lit 2) (QdA d)) (P.underlying src)
 | .call c=>match c.callee with
  | .builtin b=>Qg1 P b c.argTypes.toList
  | _=>nat_lit 3
 | _=>nat_lit 3
def wk (ms:List Nat) (es:List Edge):Nat->Option Nat:=
 List.rec (motive:=λ_=>Nat->Option Nat) (λm=>some m)
  (λe _ a m=>oE (Region.binds .any e) (oB (gH ms e.on) λk=>a (Nat.lor (Nat.lor m (Nat.pow (nat_lit 2) e.on)) k)) (a m)) es
def JT (os:List Oper):List Nat->Option (List Nat):=
 List.rec (motive:=λ_=>List Nat->Option (List Nat)) (λms=>some ms)
  (λo _ a ms=>oB (wk ms o.after.toList (nat_lit 0)) λm=>a (nm ms [m])) os
def j4 (ms:List Nat) (i j:Nat):Bool:=Option.rec (motive:=λ_=>Bool) false (λm=>Nat.beq (Nat.mod (Nat.div m (Nat.pow (nat_lit 2) i)) (nat_lit 2)) (nat_lit 1)) (gH ms j)
def Bp (d:Nat) (x:Operand):Bool:=match x with
 | .tmp t=>Nat.beq t d
 | _=>false
def Bq (ops:List Oper) (o:Oper):Option Tmp:=oB o.guard λp=>oB (gH ops p.1) λx=>x.dst
def reads (ops:List Oper) (o:Oper) (d:Nat):Bool:=Bool.or (Bk (Bp d) o.op.operands.toList) (Option.rec (motive:=λ_=>Bool) false (λt=>Nat.beq t d) (Bq ops o))
def ordered (ms:List Nat) (i j:Nat):Bool:=Bool.or (j4 ms i j) (j4 ms j i)
def O7 (ops:List Oper) (ms:List Nat) (i j:Nat) (a b:Oper):Bool:=
 Bool.or (Nat.beq i j) (Bool.and (Option.rec (motive:=λ_=>Bool) true (λd=>Bool.and (Bool.or (ordered ms i j) (Bool.not (reads ops a d))) (Option.rec (motive:=λ_=>Bool) true (λe=>Bool.not (Nat.beq d e)) a.dst)) b.dst)
  (Bool.or (Bool.not (Bool.and (Nat.beq (iB P a) (nat_lit 3)) (Nat.beq (iB P b) (nat_lit 3)))) (ordered ms i j)))
def JU {α:Type} (f:Nat->α->Bool) (l:List α):Nat->Bool:=
 List.rec (motive:=λ_=>Nat->Bool) (λ_=>true) (λa _ b i=>Bool.rec (motive:=λ_=>Bool) false (b (Nat.succ i)) (f i a)) l
def O8 (o:Oper):Bool:=match o.op with
 | .select _ _=>false
 | _=>true
def Br (ms:List Nat) (i:Nat) (o:Oper):Bool:=Option.rec (motive:=λ_=>Bool) true (λp=>j4 ms p.1 i) o.guard
def Db (ops:List Oper):Option (List Nat):=oB (JT ops []) λms=>
 oI (JU (λi a=>Bool.and (Bool.and (O8 a) (Br ms i a)) (JU (λj b=>O7 P ops ms i j a b) ops (nat_lit 0))) ops (nat_lit 0)) (some ms)
end
section
variable {E:Nat->Type}
def eY:C Unit:=.ret ()
def wm (b:Bool):C Unit:=bB b eY
def Xd (a b:Fn):Bool:=match a with
 | .func f=>match b with
  | .func g=>Nat.beq f g
  | _=>false
 | _=>false
def wo (x y:AV E):C Unit:=match x with
 | .bool a=>aI (yR y) λb _=>.fq (a=b) eY
 | .lit a=>match y with
  | .lit b=>wm (Bool.rec (motive:=λ_=>Bool) (Bool.not b) b a)
  | .bool b=>.fq (a=b) eY
  | _=>.fail
 | .int k a=>aI (cT y) λf b=>bB (Bi k f) (.fq (a=b) eY)
 | .num k a=>match y with
  | .num f b=>bB (Bi k f) (wm (WX a b))
  | .int f b=>bB (Bi k f) (.fq (a=b) eY)
  | _=>.fail
 | .str a=>av (hZ y) λb=>.fq (a=b) eY
 | .fD=>match y with
  | .fD=>eY
  | _=>.fail
 | .ptr b o=>match y with
  | .ptr d h=>wm (Bool.and (Nat.beq b d) (Nat.beq o h))
  | _=>.fail
 | .kD b o=>match y with
  | .kD d h=>wm (Bool.and (Nat.beq b d) (Nat.beq o h))
  | _=>.fail
 | .mj b k i j=>match y with
  | .mj d f q m=>bB (Bool.and (Nat.beq b d) (Bool.and (Nat.beq k f) (Nat.beq j m))) (.fq (i=q) eY)
  | _=>.fail
 | .nr c x j=>match y with
  | .nr l p m=>bB (Nat.beq j m) (av (JI c l p) λp=>.fq (x=p) eY)
  | _=>.fail
 | .cF=>match y with
  | .cF=>eY
  | _=>.fail
 | .own b k n=>match y with
  | .own d f g=>bB (Bool.and (Nat.beq b d) (Nat.beq k f)) (.fq (n=g) eY)
  | _=>.fail
 | .pre b k n=>match y with
  | .pre d f g=>bB (Bool.and (Nat.beq b d) (Nat.beq k f)) (.fq (n=g) eY)
  | _=>.fail
 | .part b k o n=>match y with
  | .part d f h g=>bB (Bool.and (Nat.beq b d) (Nat.beq k f)) (.fq (o=h) (.fq (n=g) eY))
  | _=>.fail
 | .grow c xs b=>match y with
  | .grow l e d=>bB (Nat.beq b d) (av (gD c l e) λe=>.fq (xs=e) eY)
  | _=>.fail
 | .sub b o n=>match y with
  | .sub d h g=>wm (Bool.and (Nat.beq b d) (Bool.and (Nat.beq o h) (Nat.beq n g)))
  | _=>.fail
 | .list c xs=>match y with
  | .list l e=>av (gD c l e) λe=>.fq (xs=e) eY
  | _=>.fail
 | .qm=>match y with
  | .qm=>eY
  | _=>.fail
 | .map a=>match y with
  | .map b=>wm (Nat.beq a b)
  | _=>.fail
 | .nilFunc=>match y with
  | .nilFunc=>eY
  | _=>.fail
 | .nilIface=>match y with
  | .nilIface=>eY
  | _=>.fail
 | _=>.fail
def zw (xs:List (AV E)):List (AV E)->C Unit:=
 List.rec (motive:=λ_=>List (AV E)->C Unit) (λa=>List.rec (motive:=λ_=>C Unit) eY (λ_ _ _=>.fail) a)
  (λx _ b a=>List.rec (motive:=λ_=>C Unit) .fail (λy a _=>av (wo x y) λ_=>b a) a) xs
def O9 (x y:AV E):C Unit:=match x with
 | .agg xs=>match y with
  | .agg a=>zw xs a
  | _=>.fail
 | .tuple xs=>match y with
  | .tuple a=>zw xs a
  | _=>.fail
 | .func f xs a=>match y with
  | .func g b c=>bB (Xd f g) (av (zw xs b) λ_=>zw a c)
  | _=>.fail
 | x=>wo x y
end
section
variable (P:Program) (D:Data) (cd:TypeId->Option Nat)
def guards (ops:List Oper) (i:Nat):Bool:=Bk (λo=>Option.rec (motive:=λ_=>Bool) false (λp=>Nat.beq p.1 i) o.guard) ops
def yA (ops:List Oper) (φ:T (AV D.E)) (j:Nat):Option (AV D.E):=oB (gH ops j) λo=>oB o.dst λt=>φ.get t
def JV (w:Bool) (v:AV D.E):C Bool:=match v with
 | .lit b=>.ret (Bool.rec (motive:=λ_=>Bool) (Bool.not w) w b)
 | .bool b=>.split b (.ret w) (.ret (Bool.not w))
 | _=>.ret false
def mw (ops:List Oper) (φ:T (AV D.E)) (o:Oper):C Bool:=match o.guard with
 | none=>.ret true
 | some p=>match p with
  | (j,w)=>av (cE (yA D ops φ j)) λv=>JV D w v
def wu (N:Nat) (φ:T (AV D.E)) (d:Option Tmp) (v:AV D.E):C (T (AV D.E)):=
 Option.rec (motive:=λ_=>C (T (AV D.E))) (.ret φ) (λt=>bB (Nat.ble (Nat.succ t) N) (cE (φ.put t (some v)))) d
def JW (mu:Bool) (g:Bool) (op:Op) (ex:yM D.E) (s:St D.E) (φ:T (AV D.E)):C (AV D.E×St D.E):=
 bif g then aI (ei P D cd mu op ex s φ) (λv s=>av (settle D v) λv=>.ret (v,s)) else ei P D cd mu op ex s φ
def wv (mu:Bool) (ex:yM D.E) (ops:List Oper) (N:Nat) (l:List Oper):Nat->St D.E->T (AV D.E)->C (St D.E×T (AV D.E)):=
 List.rec (motive:=λ_=>Nat->St D.E->T (AV D.E)->C (St D.E×T (AV D.E))) (λ_ s φ=>.ret (s,φ))
  (λo _ a i s φ=>av (mw D ops φ o) λb=>bE b
   (aI (JW P D cd mu (guards ops i) o.op ex s φ) λv c=>av (wu D N φ o.dst v) λφ=>bB (Nat.ble s.nx c.nx) (a (Nat.succ i) c φ))
   (av (wu D N φ o.dst undef) λφ=>a (Nat.succ i) s φ)) l
structure Rc where
 o:Oper
 g:Bool
 cls:Nat
 v:AV D.E
 φ:T (AV D.E)
 lo:Nat
 hi:Nat
 pc:T (AO D.E)
def piece (r:Rc D):Bool:=Bool.and (Nat.beq r.cls (nat_lit 1)) (Nat.ble (Nat.succ r.lo) r.hi)
def kF (yS:Nat->Bool) (rs:List (Rc D)):Nat->T (AO D.E)->C (T (AO D.E)):=
 List.rec (motive:=λ_=>Nat->T (AO D.E)->C (T (AO D.E))) (λ_ h=>.ret h)
  (λr _ a j h=>bE (Bool.and (piece D r) (yS j)) (av (cE (r.pc.get r.lo)) λo=>av (cE (h.put r.lo (some o))) λh=>a (Nat.succ j) h) (a (Nat.succ j) h)) rs
def loadAt (g:Bool) (φ:T (AV D.E)) (o:Oper) (yS:Nat->Bool) (rs:List (Rc D)) (h:T (AO D.E)):C (AV D.E):=
 av (kF D yS rs (nat_lit 0) h) λk=>aI (JW P D cd false g o.op Xc ⟨k,nat_lit 0⟩ φ) λv _=>.ret v
def O' (x:Operand):Option Tmp:=match x with
 | .tmp t=>some t
 | _=>none
def zx (φ:T (AV D.E)) (c:List (Option Tmp)):T (AV D.E)->C (T (AV D.E)):=
 List.rec (motive:=λ_=>T (AV D.E)->C (T (AV D.E))) (λa=>.ret a)
  (λx _ b a=>Option.rec (motive:=λ_=>C (T (AV D.E))) (b a) (λt=>Option.rec (motive:=λ_=>C (T (AV D.E))) (b a) (λv=>av (cE (a.put t (some v))) λa=>b a) (φ.get t)) x) c
def pG (ops:List Oper) (o:Oper):List (Option Tmp):=Bq ops o::sV O' o.op.operands.toList
structure Ds where
 φ:T (AV D.E)
 h:T (AO D.E)
 hs:List (T (AO D.E))
 nx:Nat
 last:Nat
 es:List Nat
 rs:List (Rc D)
def bU (ms:List Nat) (last j:Nat):Bool:=Nat.rec (motive:=λ_=>Bool) true (λe _=>Bool.not (j4 ms j e)) last
def O_ (mu:Bool) (N:Nat) (g:Bool) (o:Oper) (a:T (AV D.E)) (d:Ds D):C (Ds D):=aI (JW P D cd mu g o.op Xc ⟨.nil,d.nx⟩ a) λv s=>av (wu D N d.φ o.dst v) λφ=>bB (Bool.and (Nat.ble d.nx s.nx) (Nat.ble s.nx (Nat.succ d.nx)))
 (.ret ⟨φ,d.h,d.hs,s.nx,d.last,d.es,nm d.rs [⟨o,g,nat_lit 1,v,a,d.nx,s.nx,s.h⟩]⟩)
def QbH (N:Nat) (ms:List Nat) (i:Nat) (g:Bool) (o:Oper) (a:T (AV D.E)) (d:Ds D):C (Ds D):=av (loadAt P D cd g a o (λj=>Bool.and (j4 ms j i) (bU ms d.last j)) d.rs d.h) λv=>av (wu D N d.φ o.dst v) λφ=>
 .ret ⟨φ,d.h,d.hs,d.nx,d.last,d.es,nm d.rs [⟨o,g,nat_lit 2,v,a,d.nx,d.nx,.nil⟩]⟩
def Xe (mu:Bool) (ex:yM D.E) (N:Nat) (ms:List Nat) (i:Nat) (g:Bool) (o:Oper) (a:T (AV D.E)) (d:Ds D):C (Ds D):=bB (Nat.beq (iB P o) (nat_lit 3)) (av (kF D (λj=>Bool.and (j4 ms j i) (bU ms d.last j)) d.rs (nat_lit 0) d.h) λk=>
 aI (JW P D cd mu g o.op ex ⟨k,d.nx⟩ a) λv s=>av (wu D N d.φ o.dst v) λφ=>bB (Nat.ble d.nx s.nx) (.ret ⟨φ,s.h,nm d.hs [s.h],s.nx,Nat.succ i,nm d.es [i],nm d.rs [⟨o,g,nat_lit 3,v,a,d.nx,s.nx,.nil⟩]⟩))
def Pb (N:Nat) (g:Bool) (o:Oper) (a:T (AV D.E)) (d:Ds D):C (Ds D):=av (wu D N d.φ o.dst undef) λφ=>.ret ⟨φ,d.h,d.hs,d.nx,d.last,d.es,nm d.rs [⟨o,g,nat_lit 0,undef,a,d.nx,d.nx,.nil⟩]⟩
def Bs (mu:Bool) (ex:yM D.E) (ops:List Oper) (N:Nat) (ms:List Nat) (i:Nat) (o:Oper) (d:Ds D):C (Ds D):=av (zx D d.φ (pG ops o) .nil) λa=>av (mw D ops a o) λb=>bE b
 (bE (Nat.beq (iB P o) (nat_lit 1)) (O_ P D cd mu N (guards ops i) o a d) (bE (Nat.beq (iB P o) (nat_lit 2)) (QbH P D cd N ms i (guards ops i) o a d) (Xe P D cd mu ex N ms i (guards ops i) o a d)))
 (Pb D N (guards ops i) o a d)
def Bt (mu:Bool) (ex:yM D.E) (ops:List Oper) (N:Nat) (ms:List Nat) (l:List Oper):Nat->Ds D->C (Ds D):=
 List.rec (motive:=λ_=>Nat->Ds D->C (Ds D)) (λ_ d=>.ret d) (λo _ a i d=>av (Bs P D cd mu ex ops N ms i o d) λd=>a (Nat.succ i) d) l
def Bu (ms:List Nat) (rs:List (Rc D)) (i last:Nat) (r:Rc D) (h:T (AO D.E)):C Unit:=av (loadAt P D cd r.g r.φ r.o (λj=>Bool.and (j4 ms j i) (bU ms last j)) rs h) λv=>O9 v r.v
def oM (ms:List Nat) (i last:Nat) (es:List Nat):Bool:=Bool.and (bU ms last i) (List.rec (motive:=λ_=>Bool) true (λe _ _=>Bool.not (j4 ms e i)) es)
def ka (ms:List Nat) (rs:List (Rc D)) (i:Nat) (r:Rc D) (hs:List (T (AO D.E))):Nat->List Nat->C Unit:=
 List.rec (motive:=λ_=>Nat->List Nat->C Unit) (λ_ _=>eY)
  (λh _ a last es=>av (bE (oM ms i last es) (Bu P D cd ms rs i last r h) eY) λ_=>List.rec (motive:=λ_=>C Unit) eY (λe es _=>a (Nat.succ e) es) es) hs
def Gn (ms:List Nat) (all:List (Rc D)) (hs:List (T (AO D.E))) (es:List Nat) (l:List (Rc D)):Nat->C Unit:=
 List.rec (motive:=λ_=>Nat->C Unit) (λ_=>eY) (λr _ a i=>av (bE (Nat.beq r.cls (nat_lit 2)) (ka P D cd ms all i r hs (nat_lit 0) es) eY) λ_=>a (Nat.succ i)) l
def Pc (mu:Bool) (ex:yM D.E) (ops:List Oper) (N:Nat) (s:St D.E) (φ:T (AV D.E)):C (St D.E×T (AV D.E)):=av (cE (Db P ops)) λms=>av (Bt P D cd mu ex ops N ms ops (nat_lit 0) ⟨φ,s.h,[s.h],s.nx,nat_lit 0,[],[]⟩) λd=>
 av (Gn P D cd ms d.rs d.hs d.es d.rs (nat_lit 0)) λ_=>
  av (kF D (bU ms d.last) d.rs (nat_lit 0) d.h) λh=>.ret (⟨h,d.nx⟩,d.φ)
end
end
end sx
end Go.Proofs.YtadfknojfbmjgaaGreat
