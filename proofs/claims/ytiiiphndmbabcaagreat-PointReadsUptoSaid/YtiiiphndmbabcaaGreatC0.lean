/- PointReads: a part of the proof. -/
import Derived.Orders
import Derived.Below
import Derived.Deep.AppendSrc
import Derived.Laws.Entries
import Derived.Laws.IdiomCopy
import Derived.IntWalk
import Derived.Lib.ConvBytes
import Derived.Laws.StructEq
import Derived.Test.YtiiiphndmbabcaaGreatCA
set_option linter.all false
namespace Go.Proofs.YtiiiphndmbabcaaGreat
namespace sx
open Go
noncomputable section
def oB {α β:Type} (x:Option α) (f:α->Option β):Option β:=Option.rec (motive:=λ_=>Option β) none f x
def oI {β:Type} (b:Bool) (x:Option β):Option β:=Bool.rec (motive:=λ_=>Option β) none x b
def oE {β:Type} (b:Bool) (x y:Option β):Option β:=Bool.rec (motive:=λ_=>Option β) y x b
inductive C (α:Type) where
 | ret (a:α)
 | fail
 | ff (p:Prop) (x:C α)
 | split (b:Bool) (x y:C α)
 | want (b:Bool) (x:C α)
def az {α β:Type} (x:C α) (f:α->C β):C β:=
 C.rec (motive:=λ_=>C β) f .fail (λp _ a=>.ff p a) (λb _ _ c d=>.split b c d) (λb _ a=>.want b a) x
def aP {α β a:Type} (x:C (α×β)) (f:α->β->C a):C a:=az x λp=>Prod.rec (motive:=λ_=>C a) f p
def bB {β:Type} (b:Bool) (x:C β):C β:=Bool.rec (motive:=λ_=>C β) .fail x b
def bE {β:Type} (b:Bool) (x y:C β):C β:=Bool.rec (motive:=λ_=>C β) y x b
def cR {α:Type} (x:Option α):C α:=Option.rec (motive:=λ_=>C α) .fail (λa=>.ret a) x
def ask {β:Type} (b:Bool) (x:C β):C β:=.want b x
def C.wp {α:Type} (x:C α) (K:α->Prop):Prop:=
 C.rec (motive:=λ_=>Prop) K False (λp _ a=>p/\a) (λb _ _ h1 c=>(b->h1)/\(b=false->c)) (λb _ a=>b/\a) x
def C.H {α:Type} (x:C α) (v:α):Prop:=
 C.rec (motive:=λ_=>Prop) (λa=>a=v) False (λp _ c=>p/\c) (λb _ _ h1 d=>(b/\h1)\/(b=false/\d)) (λb _ c=>b/\c) x
def knw {α:Type} (x:C α):C α:=
 C.rec (motive:=λ_=>C α) .ret .fail (λp _ a=>.ff p a) (λb _ _ h1 c=>bE b h1 c) (λb _ a=>bB b a) x
inductive T (α:Type) where
 | nil
 | node (v:Option α) (l r:T α)
def T.get {α:Type} (t:T α):Nat->Option α:=
 T.rec (motive:=λ_=>Nat->Option α) (λ_=>none)
  (λv _ _ gl gr k=>Nat.rec (motive:=λ_=>Option α) v
   (λk _=>Nat.rec (motive:=λ_=>Option α) (gl (Nat.div k (nat_lit 2))) (λ_ _=>gr (Nat.div k (nat_lit 2))) (Nat.mod k (nat_lit 2))) k) t
def T.mk1 {α:Type} (n:Nat):Nat->Option α->Option (T α):=
 Nat.rec (motive:=λ_=>Nat->Option α->Option (T α)) (λ_ _=>none)
  (λ_ b k a=>Nat.rec (motive:=λ_=>Option (T α)) (some (.node a .nil .nil))
   (λk _=>Nat.rec (motive:=λ_=>Option (T α)) (oB (b (Nat.div k (nat_lit 2)) a) λl=>some (.node none l .nil))
    (λ_ _=>oB (b (Nat.div k (nat_lit 2)) a) λr=>some (.node none .nil r)) (Nat.mod k (nat_lit 2))) k) n
def T.put {α:Type} (t:T α):Nat->Option α->Option (T α):=
 T.rec (motive:=λ_=>Nat->Option α->Option (T α)) (λk a=>T.mk1 (nat_lit 64) k a)
  (λv l r pl c k a=>Nat.rec (motive:=λ_=>Option (T α)) (some (.node a l r))
   (λk _=>Nat.rec (motive:=λ_=>Option (T α)) (oB (pl (Nat.div k (nat_lit 2)) a) λb=>some (.node v b r))
    (λ_ _=>oB (c (Nat.div k (nat_lit 2)) a) λd=>some (.node v l d)) (Nat.mod k (nat_lit 2))) k) t
def XC (x y:Int):Bool:=match x with
 | .ofNat a=>match y with
  | .ofNat b=>Nat.beq a b
  | .negSucc _=>false
 | .negSucc a=>match y with
  | .ofNat _=>false
  | .negSucc b=>Nat.beq a b
def XR (x y:Int):Bool:=match x with
 | .ofNat a=>match y with
  | .ofNat b=>Nat.ble (Nat.succ a) b
  | .negSucc _=>false
 | .negSucc a=>match y with
  | .ofNat _=>true
  | .negSucc b=>Nat.ble (Nat.succ b) a
def kIx:IntKind->Nat
 | .i8=>nat_lit 0 | .i16=>nat_lit 1 | .i32=>nat_lit 2 | .i64=>nat_lit 3 | .u8=>nat_lit 4 | .u16=>nat_lit 5 | .u32=>nat_lit 6 | .u64=>nat_lit 7
def BI (a b:IntKind):Bool:=Nat.beq (kIx a) (kIx b)
def kHi:IntKind->Nat
 | .i8=>nat_lit 127 | .i16=>nat_lit 32767 | .i32=>nat_lit 2147483647 | .i64=>nat_lit 9223372036854775807
 | .u8=>nat_lit 255 | .u16=>nat_lit 65535 | .u32=>nat_lit 4294967295 | .u64=>nat_lit 18446744073709551615
def kLo:IntKind->Nat
 | .i8=>nat_lit 128 | .i16=>nat_lit 32768 | .i32=>nat_lit 2147483648 | .i64=>nat_lit 9223372036854775808
 | .u8=>nat_lit 0 | .u16=>nat_lit 0 | .u32=>nat_lit 0 | .u64=>nat_lit 0
def uT:IntKind->Nat
 | .i8=>nat_lit 256 | .u8=>nat_lit 256 | .i16=>nat_lit 65536 | .u16=>nat_lit 65536 | .i32=>nat_lit 4294967296 | .u32=>nat_lit 4294967296
 | .i64=>nat_lit 18446744073709551616 | .u64=>nat_lit 18446744073709551616
def rJ (k:IntKind) (n:Int):Int:=match n with
 | .ofNat m=>Bool.rec (motive:=λ_=>Int) (k.wrap (.ofNat m)) (.ofNat m) (Nat.ble m (kHi k))
 | .negSucc m=>Bool.rec (motive:=λ_=>Int) (k.wrap (.negSucc m)) (.negSucc m) (Nat.ble (Nat.succ m) (kLo k))
inductive CV where
 | num (k:IntKind) (n:Int)
 | lit (b:Bool)
def F9 (k:IntKind) (n:Int):Option CV:=match n with
 | .ofNat m=>Nat.rec (motive:=λ_=>Option CV) (some (.num k (.ofNat (nat_lit 0)))) (λm _=>some (.num k (.ofNat (Nat.succ m)))) m
 | .negSucc m=>Nat.rec (motive:=λ_=>Option CV) (some (.num k (.negSucc (nat_lit 0)))) (λm _=>some (.num k (.negSucc (Nat.succ m)))) m
def mkN (m:Nat):Option CV:=Nat.rec (motive:=λ_=>Option CV) (some (.num .i64 (.ofNat (nat_lit 0)))) (λm _=>some (.num .i64 (.ofNat (Nat.succ m)))) m
def Dk (k:IntKind) (n:Int):Nat:=match n with
 | .ofNat m=>Nat.mod m (uT k)
 | .negSucc m=>Nat.sub (Nat.sub (uT k) (nat_lit 1)) (Nat.mod m (uT k))
def MF (k:IntKind) (n:Nat):Option CV:=F9 k (rJ k (.ofNat n))
def XS (op:BinOp) (k:IntKind) (x y:Int):Option CV:=match op with
 | .add=>F9 k (rJ k (Int.add x y))
 | .sub=>F9 k (rJ k (Int.sub x y))
 | .mul=>F9 k (rJ k (Int.mul x y))
 | .quo=>oE (XC y (.ofNat (nat_lit 0))) none (F9 k (rJ k (Int.tdiv x y)))
 | .rem=>oE (XC y (.ofNat (nat_lit 0))) none (F9 k (Int.tmod x y))
 | .and=>MF k (Nat.land (Dk k x) (Dk k y))
 | .or=>MF k (Nat.lor (Dk k x) (Dk k y))
 | .xor=>MF k (Nat.xor (Dk k x) (Dk k y))
 | .eql=>some (.lit (XC x y))
 | .neq=>some (.lit (Bool.not (XC x y)))
 | .lss=>some (.lit (XR x y))
 | .leq=>some (.lit (Bool.not (XR y x)))
 | .gtr=>some (.lit (XR y x))
 | .geq=>some (.lit (Bool.not (XR x y)))
 | _=>none
def Pp (a b:Nat):Nat:=Bool.rec (motive:=λ_=>Nat) b a (Nat.ble a b)
def Qgo (k:IntKind) (x:Int) (m:Nat):Option CV:=F9 k (rJ k (Int.mul x (.ofNat (Nat.pow (nat_lit 2) (Pp m k.bits)))))
def Qgp (k:IntKind) (x:Int) (m:Nat):Option CV:=match x with
 | .ofNat x=>F9 k (.ofNat (Nat.div x (Nat.pow (nat_lit 2) (Pp m k.bits))))
 | .negSucc _=>none
def BJ (op:BinOp) (k a:IntKind) (x y:Int):Option CV:=match op with
 | .shl=>match y with
  | .ofNat m=>Qgo k x m
  | .negSucc _=>none
 | .shr=>match y with
  | .ofNat m=>Qgp k x m
  | .negSucc _=>none
 | op=>oI (BI k a) (XS op k x y)
def gT {α:Type} (l:List α):Nat->Option α:=
 List.rec (motive:=λ_=>Nat->Option α) (λ_=>none) (λa _ b n=>Nat.rec (motive:=λ_=>Option α) (some a) (λn _=>b n) n) l
def kb {α:Type} (l:List α):Nat:=List.rec (motive:=λ_=>Nat) (nat_lit 0) (λ_ _ a=>Nat.succ a) l
def jy {α:Type} (f:α->Bool) (l:List α):Bool:=List.rec (motive:=λ_=>Bool) true (λa _ b=>Bool.rec (motive:=λ_=>Bool) false b (f a)) l
def BK {α:Type} (f:α->Bool) (l:List α):Bool:=List.rec (motive:=λ_=>Bool) false (λa _ b=>Bool.rec (motive:=λ_=>Bool) b true (f a)) l
def s8 {α β:Type} (f:α->β) (l:List α):List β:=List.rec (motive:=λ_=>List β) [] (λa _ b=>f a::b) l
def nz {α:Type} (x y:List α):List α:=List.rec (motive:=λ_=>List α) y (λa _ b=>a::b) x
def ug {α:Type} (n:Nat):List α->Option (List α):=
 Nat.rec (motive:=λ_=>List α->Option (List α)) (λ_=>some [])
  (λ_ b l=>List.rec (motive:=λ_=>Option (List α)) none (λa x _=>oB (b x) λz=>some (a::z)) l) n
def om {α:Type} (n:Nat):List α->List α:=
 Nat.rec (motive:=λ_=>List α->List α) (λl=>l) (λ_ a l=>List.rec (motive:=λ_=>List α) [] (λ_ x _=>a x) l) n
def JG {α:Type} (b:List α):List α->Option (List α):=
 List.rec (motive:=λ_=>List α->Option (List α)) (λcs=>some cs)
  (λv _ a cs=>List.rec (motive:=λ_=>Option (List α)) none (λ_ cs _=>oB (a cs) λz=>some (v::z)) cs) b
def Dl {α:Type} (n:Nat) (b:List α):List α->Option (List α):=
 Nat.rec (motive:=λ_=>List α->Option (List α)) (λcs=>JG b cs)
  (λ_ a cs=>List.rec (motive:=λ_=>Option (List α)) none (λc cs _=>oB (a cs) λz=>some (c::z)) cs) n
def MG {α:Type} (n:Nat) (z:List α):List α:=Nat.rec (motive:=λ_=>List α) [] (λ_ a=>nz z a) n
def ay (k:IntKind) (a b:Int):Int:=k.wrap (a+b)
def cx (k:IntKind) (a b:Int):Int:=k.wrap (a-b)
def gG (k:IntKind) (a b:Int):Int:=k.wrap (a*b)
def XT (k:IntKind) (a b:Int):Int:=k.wrap (Int.tdiv a b)
def Qnh (a b:Int):Int:=Int.tmod a b
def lF (k:IntKind) (a b:Int):Int:=k.wrap (Int.ofNat (Nat.land (Dk k a) (Dk k b)))
def FZ (k:IntKind) (a b:Int):Int:=k.wrap (Int.ofNat (Nat.lor (Dk k a) (Dk k b)))
def F_ (k:IntKind) (a b:Int):Int:=k.wrap (Int.ofNat (Nat.xor (Dk k a) (Dk k b)))
def Qni (k:IntKind) (a:Int):Int:=k.wrap (-a)
def zm (k:IntKind) (a:Int):Int:=k.wrap (Int.ofNat (Nat.xor (uT k-1) (Dk k a)))
def jP (k:IntKind) (a:Int):Int:=k.wrap a
def oO (k:IntKind) (x y:Int):Int:=k.wrap (x*2 ^ (min y.toNat k.bits))
def oC (k:IntKind) (x y:Int):Int:=x / 2 ^ (min y.toNat k.bits)
def aB (a b:Int):Bool:=decide (a=b)
def aw (a b:Int):Bool:=decide (a<b)
def aG (a b:Int):Bool:=decide (a<=b)
def cM (a b:Int):Int:=if b<a then b else a
def imax (a b:Int):Int:=if a<b then b else a
def cy (b:Bool) (x y:Int):Int:=if b=true then x else y
def dD (s:List UInt8):Int:=s.length
def sat (s:List UInt8) (i:Int):Int:=(s.getD i.toNat 0).toNat
def zn (s t:List UInt8):List UInt8:=s++t
def seq (s t:List UInt8):Bool:=decide (s=t)
def slt (s t:List UInt8):Bool:=decide (s<t)
def oD (a b:Bool):Bool:=a==b
def gt {α:Type} (d:α) (xs:List α) (i:Nat):α:=xs.getD i d
def ag {α:Type} (xs:List α):Int:=xs.length
def dE {α:Type} (xs:List α) (n:Int):List α:=xs.take n.toNat
def wD {α:Type} (xs:List α) (n:Int):List α:=xs.drop n.toNat
def cS {α:Type} (xs:List α) (i:Nat) (x:α):List α:=xs.set i x
def bM {α:Type} (xs a:List α):List α:=xs++a
def oF {α:Type} (n:Int) (x:α):List α:=List.replicate n.toNat x
def rK {α:Type} (xs:List α) (o n:Int):List α:=(xs.drop o.toNat).take n.toNat
def Dm {α:Type} (xs:List α) (o n:Int) (a:List α):List α:=xs.take o.toNat++a.take n.toNat++xs.drop (o.toNat+(a.take n.toNat).length)
def BIG:Int:=9223372036854775807
def bJ (n:Int) (bytes:Nat):Bool:=decide (n*bytes<=140737488355328)
def De (k:IntKind):Int:=match k with
 | .i8=>-128 | .i16=>-32768 | .i32=>-2147483648 | .i64=>-9223372036854775808 | .u8=>0 | .u16=>0 | .u32=>0 | .u64=>0
def s9 (k:IntKind):Int:=match k with
 | .i8=>127 | .i16=>32767 | .i32=>2147483647 | .i64=>9223372036854775807 | .u8=>255 | .u16=>65535 | .u32=>4294967295 | .u64=>18446744073709551615
def fK (k:IntKind) (n:Int):Bool:=aG (De k) n&&aG n (s9 k)
inductive AV (E:Nat->Type) where
 | bool (b:Bool)
 | lit (b:Bool)
 | int (k:IntKind) (n:Int)
 | num (k:IntKind) (n:Int)
 | str (s:List UInt8)
 | fT
 | ptr (b o:Nat)
 | kA (g o:Nat)
 | mg (b k i j:Nat)
 | nA (c:Nat) (x:E c) (j:Nat)
 | dF
 | own (b k:Nat) (n:Int)
 | pre (b k:Nat) (n:Int)
 | part (b k:Nat) (o n:Int)
 | grow (c:Nat) (xs:List (E c)) (b:Nat)
 | sub (b o n:Nat)
 | list (c:Nat) (xs:List (E c))
 | qB
 | map (r:Nat)
 | func (fn:Fn) (first captured:List (AV E))
 | nilFunc
 | iface (t:TypeId) (v:AV E)
 | nilIface
 | agg (cs:List (AV E))
 | tuple (vs:List (AV E))
structure Data where
 E:Nat->Type
 size:Nat->Nat
 a_:(c:Nat)->E c->List (AV E)
 dec:(c:Nat)->List (AV E)->Option (E c)
 XU:(c:Nat)->E c
 bc:Nat
 zf:List (E bc)->List UInt8
 ofB:List UInt8->List (E bc)
 ng:Nat
 gw:World->Prop
 gst:∀w w':World,(∀c,c<ng->w'.heap[c]?=w.heap[c]?)->gw w->gw w'
inductive AO (E:Nat->Type) where
 | cells (cs:List (AV E)) (elem:TypeId) (ro:Bool)
 | arr (c:Nat) (xs:List (E c)) (elem:TypeId) (ro:Bool)
 | tok (c:Nat) (elem:TypeId)
section
variable {E:Nat->Type}
def undef:AV E:=.tuple []
def Qnj (s:ByteArray):AV E:=.str s.data.toList
def Pq (v:Value):Option (AV E):=match v with
 | .bool b=>some (.lit b)
 | .int k n=>oI (Bool.and (Bool.not (XR n (De k))) (Bool.not (XR (s9 k) n))) (some (.num k n))
 | .string s=>oI (Nat.ble (kb s.data.toList) (nat_lit 9223372036854775807)) (some (Qnj s))
 | .nilFunc=>some .nilFunc
 | .nilIface=>some .nilIface
 | .pointer a=>match a with
  | none=>some .fT
  | _=>none
 | .map a=>match a with
  | none=>some .qB
  | _=>none
 | .slice a l c=>match a with
  | none=>oI (Bool.and (Nat.beq l (nat_lit 0)) (Nat.beq c (nat_lit 0))) (some .dF)
  | _=>none
 | .func f x y=>match f with
  | .func g=>oI (Bool.and (Nat.beq (kb x.toList) (nat_lit 0)) (Nat.beq (kb y.toList) (nat_lit 0))) (some (.func (.func g) [] []))
  | _=>none
 | _=>none
def XV (l:List Value):Option (List (AV E)):=List.rec (motive:=λ_=>Option (List (AV E))) (some []) (λv _ b=>oB (Pq v) λa=>oB b λr=>some (a::r)) l
def ofV (v:Value):Option (AV E):=match v with
 | .agg cs=>oB (XV cs.toList) λl=>some (.agg l)
 | .tuple cs=>oB (XV cs.toList) λl=>some (.tuple l)
 | v=>Pq v
def wE (v:CV):AV E:=match v with
 | .num k n=>.num k n
 | .lit b=>.lit b
def dh (v:AV E):List (AV E):=match v with
 | .agg cs=>cs
 | v=>[v]
def one (v:AV E):Bool:=match v with
 | .agg _=>false
 | .tuple _=>false
 | _=>true
def cT (v:AV E):C (IntKind×Int):=match v with
 | .int k n=>.ret (k,n)
 | .num k n=>.ret (k,n)
 | _=>.fail
def asN (v:AV E):C Nat:=match v with
 | .num _ n=>match n with
  | .ofNat m=>.ret m
  | .negSucc _=>.fail
 | _=>.fail
def zh (v:AV E):C (Bool×Bool):=match v with
 | .lit b=>.ret (b,true)
 | .bool b=>.ret (b,false)
 | _=>.fail
def asAgg (v:AV E):C (List (AV E)):=match v with
 | .agg cs=>.ret cs
 | _=>.fail
def Pr (v:AV E):C (List (AV E)):=match v with
 | .tuple cs=>.ret cs
 | _=>.fail
def fY (v:AV E):C (List UInt8):=match v with
 | .str s=>.ret s
 | _=>.fail
def gQ (c a:Nat) (xs:List (E a)):C (List (E c)):=Decidable.rec (motive:=λ_=>C (List (E c))) (λ_=>.fail) (λh=>.ret (Eq.rec (motive:=λc _=>List (E c)) xs h)) (Nat.decEq a c)
def JH (c a:Nat) (x:E a):C (E c):=Decidable.rec (motive:=λ_=>C (E c)) (λ_=>.fail) (λh=>.ret (Eq.rec (motive:=λc _=>E c) x h)) (Nat.decEq a c)
end
structure St (E:Nat->Type) where
 h:T (AO E)
 nx:Nat
section
variable {E:Nat->Type}
def St.new (s:St E) (o:AO E):C (Nat×St E):=
 Nat.rec (motive:=λ_=>C (Nat×St E)) (az (cR (s.h.put (nat_lit 0) (some o))) λh=>.ret (nat_lit 0,⟨h,nat_lit 1⟩)) (λn _=>az (cR (s.h.put (Nat.succ n) (some o))) λh=>.ret (Nat.succ n,⟨h,Nat.succ (Nat.succ n)⟩)) s.nx
def St.set (s:St E) (b:Nat) (o:Option (AO E)):C (St E):=az (cR (s.h.put b o)) λh=>.ret ⟨h,s.nx⟩
def pQ (s:St E) (b:Nat):C (List (AV E)):=az (cR (s.h.get b)) λo=>match o with
 | .cells cs _ _=>.ret cs
 | _=>.fail
def QdE (s:St E) (b:Nat):C (List (AV E)×TypeId):=az (cR (s.h.get b)) λo=>match o with
 | .cells cs e ro=>Bool.rec (motive:=λ_=>C (List (AV E)×TypeId)) (.ret (cs,e)) .fail ro
 | _=>.fail
structure Ar (E:Nat->Type) where
 c:Nat
 xs:List (E c)
 e:TypeId
 ro:Bool
def kB (s:St E) (b:Nat):C (Ar E):=az (cR (s.h.get b)) λo=>match o with
 | .arr c xs e ro=>.ret ⟨c,xs,e,ro⟩
 | _=>.fail
def Qbv (s:St E) (b:Nat):C (Nat×TypeId):=az (cR (s.h.get b)) λo=>match o with
 | .tok c e=>.ret (c,e)
 | _=>.fail
end
def uh (d:TypeDesc):C TypeId:=match d with
 | .slice e=>.ret e
 | _=>.fail
def JI (d:TypeDesc):C (List Field):=match d with
 | .struct a=>.ret a.toList
 | _=>.fail
def QdF (d:TypeDesc):Bool:=match d with
 | .string=>true
 | _=>false
def Qbw (d:TypeDesc):Bool:=match d with
 | .slice _=>true
 | _=>false
def QdG (d:TypeDesc):Bool:=match d with
 | .struct _=>true
 | .array _ _=>true
 | _=>false
def dU8 (d:TypeDesc):Bool:=match d with
 | .int k=>match k with
  | .u8=>true
  | _=>false
 | _=>false
section
variable (P:Program) (D:Data) (cd:TypeId->Option Nat)
def uU (t:TypeId):Option Nat:=Option.rec (motive:=λ_=>Option Nat) none (λi=>some i.size) (P.info? t)
def XW (t:TypeId):Option Nat:=Option.rec (motive:=λ_=>Option Nat) none (λi=>some i.bytes) (P.info? t)
def uV (t:TypeId):C TypeDesc:=cR (P.underlying t)
def sz (t:TypeId):C Nat:=cR (uU P t)
def zeroOf (t:TypeId):C (AV D.E):=az (cR (P.info? t)) λi=>az (cR i.zero) λz=>cR (ofV z)
def ev (φ:T (AV D.E)) (x:Operand):C (AV D.E):=match x with
 | .tmp t=>cR (φ.get t)
 | .const v=>cR (ofV v)
 | .global g=>bB (Nat.ble (Nat.succ g) P.globals.size) (.ret (.kA g (nat_lit 0)))
 | .func f=>.ret (.func (.func f) [] [])
def Pt (φ:T (AV D.E)) (l:List Operand):C (List (AV D.E)):=
 List.rec (motive:=λ_=>C (List (AV D.E))) (.ret []) (λx _ a=>az (ev P D φ x) λv=>az a λb=>.ret (v::b)) l
def jW (t:TypeId) (cs:List (AV D.E)) (o:Nat):C (AV D.E):=az (uV P t) λd=>
 bE (QdG d) (az (sz P t) λk=>az (cR (ug k (om o cs))) λl=>.ret (.agg l)) (cR (gT cs o))
def qS (e:TypeId):C Nat:=az (cR (cd e)) λc=>az (sz P e) λk=>bB (Nat.beq k (D.size c)) (bB (Nat.ble (nat_lit 1) k) (.ret c))
def rowAt (a:Ar D.E) (i:Nat):List (AV D.E):=D.a_ a.c (gt (D.XU a.c) a.xs i)
def Dp (s:St D.E) (t:TypeId) (p:AV D.E):C (AV D.E):=match p with
 | .ptr b o=>az (pQ s b) λcs=>jW P D t cs o
 | .mg b _ i j=>az (kB s b) λa=>jW P D t (rowAt D a i) j
 | .nA c x j=>jW P D t (D.a_ c x) j
 | _=>.fail
def s_ (s:St D.E) (b o:Nat) (a:List (AV D.E)):C (St D.E):=aP (QdE s b) λcs e=>az (cR (Dl o a cs)) λcs=>s.set b (some (.cells cs e false))
def uW (c:Nat) (row:List (AV D.E)):C (D.E c):=cR (D.dec c row)
def Pu (s:St D.E) (b i j:Nat) (d:List (AV D.E)):C (St D.E):=az (kB s b) λa=>match a with
 | ⟨c,xs,e,ro⟩=>Bool.rec (motive:=λ_=>C (St D.E)) (az (cR (Dl j d (D.a_ c (gt (D.XU c) xs i)))) λrow=>az (uW D c row) λx=>s.set b (some (.arr c (cS xs i x) e false))) .fail ro
def JJ (s:St D.E) (t:TypeId) (p x:AV D.E):C (St D.E):=az (sz P t) λk=>bB (Nat.beq (kb (dh x)) k) (bB (jy one (dh x)) (match p with
 | .ptr b o=>s_ D s b o (dh x)
 | .mg b _ i j=>Pu D s b i j (dh x)
 | _=>.fail))
def XX (op:BinOp) (k:IntKind) (x y:Int):C (AV D.E):=match op with
 | .add=>.ret (.int k (ay k x y))
 | .sub=>.ret (.int k (cx k x y))
 | .mul=>.ret (.int k (gG k x y))
 | .quo=>ask (Bool.not (aB y (.ofNat (nat_lit 0)))) (.ret (.int k (XT k x y)))
 | .rem=>ask (Bool.not (aB y (.ofNat (nat_lit 0)))) (.ret (.int k (Qnh x y)))
 | .and=>.ret (.int k (lF k x y))
 | .or=>.ret (.int k (FZ k x y))
 | .xor=>.ret (.int k (F_ k x y))
 | .eql=>.ret (.bool (aB x y))
 | .neq=>.ret (.bool (Bool.not (aB x y)))
 | .lss=>.ret (.bool (aw x y))
 | .leq=>.ret (.bool (aG x y))
 | .gtr=>.ret (.bool (aw y x))
 | .geq=>.ret (.bool (aG y x))
 | _=>.fail
def XY (op:BinOp) (k a:IntKind) (x y:Int):C (AV D.E):=match op with
 | .shl=>ask (aG (.ofNat (nat_lit 0)) y) (.ret (.int k (oO k x y)))
 | .shr=>ask (aG (.ofNat (nat_lit 0)) y) (ask (aG (.ofNat (nat_lit 0)) x) (.ret (.int k (oC k x y))))
 | op=>bB (BI k a) (XX D op k x y)
def BL (op:BinOp) (x y:List UInt8):C (AV D.E):=match op with
 | .add=>ask (aG (dD (zn x y)) BIG) (.ret (.str (zn x y)))
 | .eql=>.ret (.bool (seq x y))
 | .neq=>.ret (.bool (Bool.not (seq x y)))
 | .lss=>.ret (.bool (slt x y))
 | .leq=>.ret (.bool (Bool.not (slt y x)))
 | .gtr=>.ret (.bool (slt y x))
 | .geq=>.ret (.bool (Bool.not (slt x y)))
 | _=>.fail
def BM (v:AV D.E):C Bool:=match v with
 | .fT=>.ret true
 | .ptr _ _=>.ret false
 | .kA _ _=>.ret false
 | .mg _ _ _ _=>.ret false
 | .nA _ _ _=>.ret false
 | .dF=>.ret true
 | .qB=>.ret true
 | .map _=>.ret false
 | .nilFunc=>.ret true
 | .func _ _ _=>.ret false
 | .nilIface=>.ret true
 | .iface _ _=>.ret false
 | .list _ xs=>ask (aw (.ofNat (nat_lit 0)) (ag xs)) (.ret false)
 | _=>.fail
def Ga (v:AV D.E):Nat:=match v with
 | .fT=>nat_lit 1 | .ptr _ _=>nat_lit 1 | .kA _ _=>nat_lit 1 | .mg _ _ _ _=>nat_lit 1 | .nA _ _ _=>nat_lit 1
 | .dF=>nat_lit 2 | .list _ _=>nat_lit 2 | .qB=>nat_lit 3 | .map _=>nat_lit 3 | .nilFunc=>nat_lit 4 | .func _ _ _=>nat_lit 4 | .nilIface=>nat_lit 5 | .iface _ _=>nat_lit 5
 | _=>nat_lit 0
def Qbx (d:TypeDesc):Nat:=match d with
 | .pointer _=>nat_lit 1
 | .slice _=>nat_lit 2
 | .map _ _=>nat_lit 3
 | .func _ _ _=>nat_lit 4
 | .interface _=>nat_lit 5
 | _=>nat_lit 6
def Qby (d:TypeDesc) (x y:AV D.E):C (Bool×Bool):=bB (Nat.beq (Ga D x) (Qbx d)) (bB (Nat.beq (Ga D y) (Qbx d)) (az (BM D x) λa=>az (BM D y) λb=>bE (Bool.or a b) (.ret (Bool.and a b,true)) .fail))
def JK (x y:AV D.E):C (Bool×Bool):=match x with
 | .num k a=>match y with
  | .num c b=>bB (BI k c) (.ret (XC a b,true))
  | .int c b=>bB (BI k c) (.ret (aB a b,false))
  | _=>.fail
 | .int k a=>aP (cT y) λc b=>bB (BI k c) (.ret (aB a b,false))
 | _=>.fail
def Gb (d:TypeDesc) (x y:AV D.E):C (Bool×Bool):=match d with
 | .bool=>aP (zh x) λa p=>aP (zh y) λb q=>.ret (oD a b,Bool.and p q)
 | .int _=>JK D x y
 | .string=>az (fY x) λa=>az (fY y) λb=>.ret (seq a b,false)
 | d=>Qby D d x y
def Dq (a b:Bool×Bool):Bool×Bool:=match a with
 | (x,p)=>match b with
  | (y,q)=>bif p then(bif x then(y,q) else(false,true)) else(bif q then(bif y then(x,p) else(false,true)) else(Bool.and x y,false))
def vL (b:TypeId->AV D.E->AV D.E->C (Bool×Bool)) (e:TypeId) (k:Nat) (xs d:List (AV D.E)) (n:Nat):Nat->C (Bool×Bool):=
 Nat.rec (motive:=λ_=>Nat->C (Bool×Bool)) (λ_=>.ret (true,true))
  (λ_ a i=>az (jW P D e xs (Nat.mul i k)) λx=>az (jW P D e d (Nat.mul i k)) λy=>az (b e x y) λr=>az (a (Nat.succ i)) λc=>.ret (Dq r c)) n
def eqFields (ih:TypeId->AV D.E->AV D.E->C (Bool×Bool)) (xs ys:List (AV D.E)) (fs:List Field):C (Bool×Bool):=
 List.rec (motive:=λ_=>C (Bool×Bool)) (.ret (true,true))
  (λf _ ihf=>bE (decide (f.name= "_")) .fail (az (jW P D f.type xs f.offset) λx=>az (jW P D f.type ys f.offset) λy=>az (ih f.type x y) λr=>az ihf λr'=>.ret (Dq r r'))) fs
def eqD (b:TypeId->AV D.E->AV D.E->C (Bool×Bool)) (t:TypeId) (d:TypeDesc) (x y:AV D.E):C (Bool×Bool):=match d with
 | .struct c=>az (asAgg x) λxs=>az (asAgg y) λa=>bE (P.stoodInHeld t) .fail (eqFields P D b xs a c.toList)
 | .array len e=>az (asAgg x) λxs=>az (asAgg y) λa=>az (sz P e) λk=>vL P D b e k xs a len (nat_lit 0)
 | d=>Gb D d x y
def O9 (n:Nat):TypeId->AV D.E->AV D.E->C (Bool×Bool):=
 Nat.rec (motive:=λ_=>TypeId->AV D.E->AV D.E->C (Bool×Bool)) (λ_ _ _=>.fail) (λ_ a t x y=>az (uV P t) λd=>eqD P D a t d x y) n
def Pv (t:TypeId) (x y:AV D.E):C (Bool×Bool):=match x with
 | .agg _=>bE (P.eqGuardType P.depth t) .fail (O9 P D (nat_lit 4) t x y)
 | .nilIface=>match y with
  | .nilIface=>.fail
  | _=>O9 P D (nat_lit 4) t x y
 | _=>O9 P D (nat_lit 4) t x y
def mkT (b c:Bool):AV D.E:=bif c then .lit b else .bool b
def Pw (op:BinOp) (t:TypeId) (x y:AV D.E):C (AV D.E):=match op with
 | .eql=>aP (Pv P D t x y) λr c=>.ret (mkT D r c)
 | .neq=>aP (Pv P D t x y) λr c=>.ret (mkT D (Bool.not r) c)
 | _=>.fail
def Qgu (op:BinOp) (t:TypeId) (x y:AV D.E):C (AV D.E):=match x with
 | .num k a=>match y with
  | .num c b=>az (cR (BJ op k c a b)) λv=>.ret (wE v)
  | .int c b=>XY D op k c a b
  | _=>.fail
 | .int k a=>aP (cT y) λc b=>XY D op k c a b
 | .str a=>az (fY y) λb=>BL D op a b
 | x=>Pw P D op t x y
def isConst (x:Operand):Bool:=match x with
 | .const _=>true
 | _=>false
def QdH (v:AV D.E):Bool:=match v with
 | .nilIface=>true
 | _=>false
def Qgv (d:TypeDesc):Bool:=match d with
 | .interface _=>true
 | _=>false
def nnA (op:BinOp):C (AV D.E):=match op with
 | .eql=>.ret (.lit true)
 | .neq=>.ret (.lit false)
 | _=>.fail
def Qgw (op:BinOp) (t:TypeId) (a b:Operand) (x y:AV D.E):C (AV D.E):=bE (Bool.and (Bool.or (isConst a) (isConst b)) (Bool.and (QdH D x) (QdH D y))) (az (uV P t) λd=>bB (Qgv d) (nnA D op)) (Qgu P D op t x y)
def unA (op:UnOp) (x:AV D.E):C (AV D.E):=match op with
 | .neg=>match x with
  | .num k n=>az (cR (F9 k (rJ k (Int.neg n)))) λv=>.ret (wE v)
  | .int k n=>.ret (.int k (Qni k n))
  | _=>.fail
 | .xor=>match x with
  | .num k n=>az (cR (MF k (Nat.xor (Nat.sub (uT k) (nat_lit 1)) (Dk k n)))) λv=>.ret (wE v)
  | .int k n=>.ret (.int k (zm k n))
  | _=>.fail
 | .not=>aP (zh x) λb c=>.ret (mkT D (Bool.not b) c)
 | _=>.fail
def Qgx (c:Nat) (cs:List (AV D.E)) (n:Nat):Nat->C (List (D.E c)):=
 Nat.rec (motive:=λ_=>Nat->C (List (D.E c))) (λ_=>.ret []) (λ_ a o=>az (cR (gT cs o)) λv=>az (cR (D.dec c [v])) λx=>az (a (Nat.succ o)) λr=>.ret (x::r)) n
def aL (s:St D.E) (c:Nat) (x:AV D.E):C (List (D.E c)):=match x with
 | .list d xs=>gQ c d xs
 | .grow d xs _=>gQ c d xs
 | .own b _ _=>az (kB s b) λa=>match a with
  | ⟨d,xs,_,_⟩=>gQ c d xs
 | .pre b _ n=>az (kB s b) λa=>match a with
  | ⟨d,xs,_,_⟩=>gQ c d (dE xs n)
 | .part b _ o n=>az (kB s b) λa=>match a with
  | ⟨d,xs,_,_⟩=>gQ c d (rK xs o n)
 | .dF=>.ret []
 | .str l=>gQ c D.bc (D.ofB l)
 | .sub b o n=>bB (Nat.beq (D.size c) (nat_lit 1)) (az (pQ s b) λcs=>Qgx D c cs n o)
 | _=>.fail
def Px (x:AV D.E):C (AV D.E):=match x with
 | .list _ xs=>.ret (.int .i64 (ag xs))
 | .grow _ xs _=>.ret (.int .i64 (ag xs))
 | .own _ _ n=>.ret (.int .i64 n)
 | .pre _ _ n=>.ret (.int .i64 n)
 | .part _ _ _ n=>.ret (.int .i64 n)
 | .dF=>.ret (.num .i64 (.ofNat (nat_lit 0)))
 | .sub _ _ n=>az (cR (mkN n)) λv=>.ret (wE v)
 | _=>.fail
def Qgy (t:TypeId) (x:AV D.E):C (AV D.E):=az (uV P t) λd=>match d with
 | .string=>az (fY x) λl=>.ret (.int .i64 (dD l))
 | .slice _=>Px D x
 | .array n _=>az (cR (mkN n)) λv=>bB (Nat.ble n (nat_lit 1099511627776)) (.ret (wE v))
 | _=>.fail
def Py (s:St D.E) (c:Nat) (xs:List (D.E c)) (e:TypeId):C (AV D.E×St D.E):=aP (s.new (.arr c xs e false)) λb s=>.ret (.own b (D.size c) (ag xs),s)
def BN (s:St D.E) (c:Nat) (xs:List (D.E c)) (e:TypeId):C (AV D.E×St D.E):=aP (s.new (.tok c e)) λb s=>.ret (.grow c xs b,s)
def newRow (mu:Bool) (s:St D.E) (c:Nat) (xs:List (D.E c)) (e:TypeId):C (AV D.E×St D.E):=bif mu then Py D s c xs e else BN D s c xs e
def Gc (d:Nat) (s:St D.E) (c:Nat) (e:TypeId) (b:Nat) (cut:List (D.E c)->List (D.E c)) (f:List (D.E c)):C (AV D.E×St D.E):=az (kB s b) λa=>match a with
 | ⟨g,xs,h,ro⟩=>Bool.rec (motive:=λ_=>C (AV D.E×St D.E)) (bB (Nat.beq h e) (az (gQ c g xs) λxs=>ask (bJ (ag (bM (cut xs) f)) d) (az (s.set b none) λs=>aP (s.new (.arr c (bM (cut xs) f) e false)) λb s=>.ret (.own b (D.size c) (ag (bM (cut xs) f)),s)))) .fail ro
def Dr (mu:Bool) (a:Nat) (s:St D.E) (c:Nat) (e:TypeId) (d:AV D.E) (f:List (D.E c)):C (AV D.E×St D.E):=match d with
 | .dF=>ask (bJ (ag f) a) (newRow D mu s c f e)
 | .grow g xs b=>aP (Qbv s b) λc2 h=>bB (Nat.beq c2 c) (bB (Nat.beq h e) (az (gQ c g xs) λxs=>ask (bJ (ag (bM xs f)) a) (az (s.set b none) λs=>BN D s c (bM xs f) e)))
 | .own b _ _=>Gc D a s c e b (λxs=>xs) f
 | .pre b _ n=>Gc D a s c e b (λxs=>dE xs n) f
 | _=>.fail
def JL (mu:Bool) (s:St D.E) (t u:TypeId) (d x:AV D.E):C (AV D.E×St D.E):=az (uV P t) λb=>az (uh b) λe=>az (uV P u) λa=>bB (Bool.or (Qbw a) (QdF a))
 (az (qS P D cd e) λc=>az (cR (XW P e)) λbytes=>bB (Nat.ble bytes (nat_lit 65536)) (bB (Nat.ble (nat_lit 1) bytes) (az (zeroOf P D e) λz=>bB (Nat.beq (kb (dh z)) (D.size c)) (az (aL D s c x) λf=>Dr D mu bytes s c e d f))))
def JM (l:List UInt8) (cs:List (AV D.E)):Nat->C (List (AV D.E)):=
 List.rec (motive:=λ_=>Nat->C (List (AV D.E))) (λ_=>.ret []) (λv _ a i=>aP (cT v) λk n=>bB (BI k .u8) (az (a (Nat.succ i)) λr=>.ret (.int .u8 (cy (aw (.ofNat i) (dD l)) (sat l (.ofNat i)) n)::r))) cs
def BO (s:St D.E) (b:Nat) (o n:Int) (x:AV D.E) (c:Nat):C (AV D.E×St D.E):=az (kB s b) λa=>match a with
 | ⟨d,xs,f,ro⟩=>Bool.rec (motive:=λ_=>C (AV D.E×St D.E)) (az (aL D s d x) λe=>bB (Nat.beq c d) (az (s.set b (some (.arr d (Dm xs o n e) f false))) λs=>.ret (.int .i64 (cM n (ag e)),s))) .fail ro
def Qbz (s:St D.E) (t:TypeId) (d x:AV D.E):C (AV D.E×St D.E):=az (uV P t) λh=>az (uh h) λe=>az (qS P D cd e) λc=>match d with
 | .own b _ n=>BO D s b (.ofNat (nat_lit 0)) n x c
 | .pre b _ n=>BO D s b (.ofNat (nat_lit 0)) n x c
 | .part b _ o n=>BO D s b o n x c
 | .sub b o n=>bB (Nat.beq c D.bc) (bB (Nat.ble n (nat_lit 1000)) (match x with
  | .sub g i a=>az (pQ s g) λcs=>az (cR (ug (Pp a n) (om i cs))) λl=>bB (jy one l) (az (s_ D s b o l) λs=>az (cR (mkN (Pp a n))) λv=>.ret (wE v,s))
  | x=>az (aL D s D.bc x) λf=>az (pQ s b) λcs=>az (cR (ug n (om o cs))) λl=>az (JM D (D.zf f) l (nat_lit 0)) λl=>az (s_ D s b o l) λs=>.ret (.int .i64 (cM (.ofNat n) (dD (D.zf f))),s)))
 | _=>.fail
def evO (φ:T (AV D.E)) (x:Option Operand):C (Option (AV D.E)):=
 Option.rec (motive:=λ_=>C (Option (AV D.E))) (.ret none) (λx=>az (ev P D φ x) λv=>.ret (some v)) x
def zI:Int:=.ofNat (nat_lit 0)
def Qgz {α:Type} (xs:List α) (hi:Option (AV D.E)):C (List α):=Option.rec (motive:=λ_=>C (List α)) (.ret xs) (λv=>aP (cT v) λ_ h=>ask (aG zI h) (ask (aG h (ag xs)) (.ret (dE xs h)))) hi
def QgA {α:Type} (xs:List α) (lo:Option (AV D.E)):C (List α):=Option.rec (motive:=λ_=>C (List α)) (.ret xs) (λv=>aP (cT v) λ_ l=>ask (aG zI l) (ask (aG l (ag xs)) (.ret (wD xs l)))) lo
def QgB {α:Type} (xs:List α) (hi mx:Option (AV D.E)):C Unit:=Option.rec (motive:=λ_=>C Unit) (.ret ()) (λv=>aP (cT v) λ_ m=>az (cR hi) λhi=>aP (cT hi) λ_ h=>ask (aG h m) (ask (aG m (ag xs)) (.ret ()))) mx
def MH {α:Type} (xs:List α) (lo hi mx:Option (AV D.E)):C (List α):=az (QgB D xs hi mx) λ_=>az (Qgz D xs hi) λa=>QgA D a lo
def Pz (lo:Option (AV D.E)):Bool:=Option.rec (motive:=λ_=>Bool) true (λv=>match v with
 | .num _ n=>XC n zI
 | _=>false) lo
def oP (x:Option (AV D.E)) (d hi:Nat):C Nat:=Option.rec (motive:=λ_=>C Nat) (.ret d) (λv=>az (asN v) λm=>bB (Nat.ble m hi) (.ret m)) x
def iE (x:Option (AV D.E)) (d hi:Int):C Int:=Option.rec (motive:=λ_=>C Int) (.ret d) (λv=>aP (cT v) λ_ m=>ask (aG zI m) (ask (aG m hi) (.ret m))) x
def zW (b k:Nat) (l h:Int) (z:Bool):AV D.E:=bif z then .pre b k h else .part b k l (h-l)
def Ge (b k:Nat) (o l h:Int) (z:Bool):AV D.E:=bif z then .part b k o h else .part b k (o+l) (h-l)
def PA (t:TypeId) (x:AV D.E) (lo hi mx:Option (AV D.E)):C (AV D.E):=az (uV P t) λd=>match d with
 | .string=>bB (Option.isNone mx) (az (fY x) λl=>az (MH D l lo hi mx) λr=>.ret (.str r))
 | .slice e=>az (sz P e) λk=>match x with
  | .list c xs=>bB (Nat.beq k (D.size c)) (az (MH D xs lo hi mx) λr=>.ret (.list c r))
  | .grow c xs _=>bB (Nat.beq k (D.size c)) (az (MH D xs lo hi mx) λr=>.ret (.list c r))
  | .dF=>az (oP D mx (nat_lit 0) (nat_lit 0)) λ_=>az (oP D hi (nat_lit 0) (nat_lit 0)) λ_=>az (oP D lo (nat_lit 0) (nat_lit 0)) λ_=>bE (Bool.and (Option.isSome mx) (Option.isNone hi)) .fail (.ret .dF)
  | .own b a n=>bB (Bool.and (Nat.beq a k) (Option.isNone mx)) (az (iE D hi n n) λh=>az (iE D lo zI h) λl=>.ret (zW D b k l h (Pz D lo)))
  | .pre b a n=>bB (Bool.and (Nat.beq a k) (Option.isNone mx)) (az (iE D hi n n) λh=>az (iE D lo zI h) λl=>.ret (zW D b k l h (Pz D lo)))
  | .part b a o n=>bB (Bool.and (Nat.beq a k) (Option.isNone mx)) (az (iE D hi n n) λh=>az (iE D lo zI h) λl=>.ret (Ge D b k o l h (Pz D lo)))
  | .sub b o n=>az (oP D hi n n) λh=>az (oP D lo (nat_lit 0) h) λl=>bB (Bool.and (Nat.beq k (nat_lit 1)) (Option.isNone mx)) (.ret (.sub b (Nat.add o l) (Nat.sub h l)))
  | _=>.fail
 | .array n e=>match x with
  | .ptr b o=>az (sz P e) λk=>bB (Nat.beq k (nat_lit 1)) (bB (Bool.and (Nat.ble n (nat_lit 1099511627776)) (Option.isNone mx)) (az (oP D hi n n) λh=>az (oP D lo (nat_lit 0) h) λl=>.ret (.sub b (Nat.add o l) (Nat.sub h l))))
  | _=>.fail
 | _=>.fail
def wF (aI:Nat->C (Nat×Nat)) (φ:T (AV D.E)) (b:List (Nat×Operand)):List (AV D.E)->C (List (AV D.E)):=
 List.rec (motive:=λ_=>List (AV D.E)->C (List (AV D.E))) (λcs=>.ret cs)
  (λp _ a cs=>aP (.ret p) λi x=>aP (aI i) λoff size=>az (ev P D φ x) λv=>bB (Nat.beq (kb (dh v)) size) (az (cR (Dl off (dh v) cs)) λcs=>a cs)) b
def PB (a:List Field) (i:Nat):C (Nat×Nat):=az (cR (gT a i)) λf=>az (sz P f.type) λk=>.ret (f.offset,k)
def QbA (a:List Field):Bool:=jy (λf=>Option.rec (motive:=λ_=>Bool) false (λ_=>true) (uU P f.type)) a
def JN (φ:T (AV D.E)) (t:TypeId) (parts:List (Nat×Operand)):C (AV D.E):=az (zeroOf P D t) λz=>az (uV P t) λd=>match d with
 | .struct a=>bB (QbA P a.toList) (az (wF P D (PB P a.toList) φ parts (dh z)) λcs=>.ret (.agg cs))
 | .array _ e=>az (sz P e) λk=>az (wF P D (λi=>.ret (Nat.mul i k,k)) φ parts (dh z)) λcs=>.ret (.agg cs)
 | _=>.fail
def Gf (c k:Nat) (n:Nat):List (AV D.E)->C (List (D.E c)):=
 Nat.rec (motive:=λ_=>List (AV D.E)->C (List (D.E c))) (λ_=>.ret [])
  (λ_ a cs=>az (cR (ug k cs)) λrow=>az (uW D c row) λx=>az (a (om k cs)) λr=>.ret (x::r)) n
def zX (mu:Bool) (s:St D.E) (φ:T (AV D.E)) (t:TypeId) (len:Nat) (parts:List (Nat×Operand)):C (AV D.E×St D.E):=az (uV P t) λd=>az (uh d) λe=>az (qS P D cd e) λc=>az (zeroOf P D e) λz=>
 bB (Nat.beq (kb (dh z)) (D.size c)) (bB (Nat.ble (Nat.mul len (D.size c)) (nat_lit 100000))
  (az (wF P D (λi=>.ret (Nat.mul i (D.size c),D.size c)) φ parts (MG len (dh z))) λcs=>bB (jy one cs) (az (Gf D c (D.size c) len cs) λxs=>newRow D mu s c xs e)))
def QgC (v:AV D.E):Bool:=match v with
 | .num _ n=>XC n zI
 | _=>false
def Dt (mu:Bool) (s:St D.E) (t:TypeId) (l c:AV D.E):C (AV D.E×St D.E):=az (uV P t) λd=>az (uh d) λe=>aP (cT l) λb n=>bB (BI b .i64) (aP (cT c) λf m=>bB (BI f .i64) (az (qS P D cd e) λc=>az (cR (XW P e)) λa=>az (zeroOf P D e) λz=>
 bB (Nat.beq (kb (dh z)) (D.size c)) (bB (Nat.ble a (nat_lit 65536)) (az (uW D c (dh z)) λx=>ask (aG zI n) (ask (aG n m) (ask (bJ m a)
  (bE (Bool.and (QgC D l) (Bool.not mu)) (BN D s c [] e) (Py D s c (oF n x) e))))))))
def PC (x:AV D.E):C (AV D.E):=match x with
 | .ptr _ _=>.ret x
 | .kA _ _=>.ret x
 | .mg _ _ _ _=>.ret x
 | .nA _ _ _=>.ret x
 | .func f _ _=>match f with
  | .func _=>.ret x
  | _=>.fail
 | _=>.fail
def vM (d:TypeDesc) (n:Int) (closed:Bool):C (AV D.E):=match d with
 | .int k=>bif closed then(az (cR (F9 k (rJ k n))) λv=>.ret (wE v)) else .ret (.int k (jP k n))
 | .string=>.ret (.str (Utf8.encode n).data.toList)
 | _=>.fail
def Gg (s:St D.E) (d a:TypeDesc) (x:AV D.E):C (AV D.E×St D.E):=az (uh d) λe=>match a with
  | .string=>az (uV P e) λb=>bB (dU8 b) (az (qS P D cd e) λc=>bB (Nat.beq c D.bc) (az (aL D s D.bc x) λxs=>.ret (.str (D.zf xs),s)))
  | _=>.fail
def XZ (s:St D.E) (src dst:TypeId) (f c:TypeDesc) (b k:Nat) (n:Int):C (AV D.E×St D.E):=az (uh f) λ_=>az (uh c) λe=>bB (Nat.beq src dst) (bB (Nat.beq k (nat_lit 1)) (az (uV P e) λd=>bB (dU8 d) (az (kB s b) λa=>bE a.ro .fail (ask (aw (.ofNat (nat_lit 0)) n) (.ret (.own b k n,s))))))
def PD (mu:Bool) (s:St D.E) (src dst:TypeId) (x:AV D.E):C (AV D.E×St D.E):=az (uV P src) λd=>az (uV P dst) λa=>match x with
 | .int _ n=>az (vM D a n false) λv=>.ret (v,s)
 | .num _ n=>az (vM D a n true) λv=>.ret (v,s)
 | .str b=>bB (QdF d) (match a with
  | .string=>.ret (.str b,s)
  | .slice e=>az (uV P e) λf=>bB (dU8 f) (az (qS P D cd e) λc=>az (gQ c D.bc (D.ofB b)) λxs=>newRow D mu s c xs e)
  | _=>.fail)
 | .own b k n=>bE (Qbw a) (XZ P D s src dst d a b k n) (Gg P D cd s d a (.own b k n))
 | x=>Gg P D cd s d a x
def JO (t:TypeId) (x:AV D.E):C (AV D.E):=az (uV P t) λd=>match d with
 | .interface _=>.fail
 | _=>.ret (.iface t x)
def ui (t:TypeId) (x:AV D.E) (f:Nat):C (AV D.E):=az (uV P t) λd=>az (JI d) λa=>az (cR (gT a f)) λfd=>az (sz P fd.type) λk=>bB (Nat.ble (nat_lit 1) k) (match x with
 | .ptr b o=>.ret (.ptr b (Nat.add o fd.offset))
 | .kA b o=>.ret (.kA b (Nat.add o fd.offset))
 | .mg b n i j=>.ret (.mg b n i (Nat.add j fd.offset))
 | .nA c y j=>.ret (.nA c y (Nat.add j fd.offset))
 | _=>.fail)
def JP (t:TypeId) (x:AV D.E) (f:Nat):C (AV D.E):=az (uV P t) λd=>az (JI d) λa=>az (asAgg x) λcs=>az (cR (gT a f)) λfd=>jW P D fd.type cs fd.offset
def zY (t:TypeId) (x i:AV D.E):C (AV D.E):=az (uV P t) λd=>match d with
 | .slice e=>az (sz P e) λk=>aP (cT i) λ_ i=>match x with
  | .list c xs=>bB (Nat.beq k (D.size c)) (ask (aG zI i) (ask (aw i (ag xs)) (.ret (.nA c (gt (D.XU c) xs i.toNat) (nat_lit 0)))))
  | .grow c xs _=>bB (Nat.beq k (D.size c)) (ask (aG zI i) (ask (aw i (ag xs)) (.ret (.nA c (gt (D.XU c) xs i.toNat) (nat_lit 0)))))
  | .own b a n=>bB (Nat.beq a k) <| ask (aG zI i) (ask (aw i n) (.ret (.mg b k i.toNat (nat_lit 0))))
  | .pre b a n=>bB (Nat.beq a k) <| ask (aG zI i) (ask (aw i n) (.ret (.mg b k i.toNat (nat_lit 0))))
  | .part b a o n=>bB (Nat.beq a k) <| ask (aG zI i) (ask (aw i n) (.ret (.mg b k (o+i).toNat (nat_lit 0))))
  | _=>.fail
 | .array len e=>az (sz P e) λk=>bB (Nat.ble (nat_lit 1) k) (az (asN i) λi=>bB (Nat.ble (Nat.succ i) len) (match x with
  | .ptr b o=>.ret (.ptr b (Nat.add o (Nat.mul i k)))
  | .mg b n m j=>.ret (.mg b n m (Nat.add j (Nat.mul i k)))
  | .nA c y j=>.ret (.nA c y (Nat.add j (Nat.mul i k)))
  | _=>.fail))
 | _=>.fail
def JQ (t:TypeId) (x i:AV D.E):C (AV D.E):=az (uV P t) λd=>match d with
 | .string=>aP (cT i) λ_ i=>az (fY x) λl=>ask (aG zI i) (ask (aw i (dD l)) (.ret (.int .u8 (sat l i))))
 | .array len e=>az (sz P e) λk=>az (asN i) λi=>az (asAgg x) λcs=>bB (Nat.ble (Nat.succ i) len) (jW P D e cs (Nat.mul i k))
 | _=>.fail
def zZ (x:AV D.E) (i:Nat):C (AV D.E):=az (Pr x) λl=>cR (gT l i)
def vN (s:St D.E) (b:Nat) (o n:Int) (k:Nat) (z:List (AV D.E)):C (AV D.E×St D.E):=az (kB s b) λa=>match a with
 | ⟨c,xs,d,ro⟩=>bB (Nat.beq (kb z) (D.size c)) (bB (Nat.beq k (D.size c)) (az (uW D c z) λy=>Bool.rec (motive:=λ_=>C (AV D.E×St D.E)) (az (s.set b (some (.arr c (Dm xs o n (oF n y)) d false))) λs=>.ret (undef,s)) .fail ro))
def JR (s:St D.E) (t:TypeId) (x:AV D.E):C (AV D.E×St D.E):=az (uV P t) λd=>az (uh d) λe=>az (zeroOf P D e) λz=>az (sz P e) λk=>match x with
 | .own b _ n=>vN D s b zI n k (dh z)
 | .pre b _ n=>vN D s b zI n k (dh z)
 | .part b _ o n=>vN D s b o n k (dh z)
 | .dF=>.ret (undef,s)
 | _=>.fail
def oQ (mn:Bool) (e:List (AV D.E)):AV D.E->C (AV D.E):=
 List.rec (motive:=λ_=>AV D.E->C (AV D.E)) (λv=>.ret v) (λy _ c x=>aP (cT x) λk a=>aP (cT y) λd b=>bB (BI k d) (c (.int k (bif mn then cM a b else imax a b)))) e
def iF (s:St D.E) (x:C (AV D.E)):C (AV D.E×St D.E):=az x λv=>.ret (v,s)
def QgD (x:C (St D.E)):C (AV D.E×St D.E):=az x λs=>.ret (undef,s)
def settle (v:AV D.E):C (AV D.E):=match v with
 | .bool b=>.split b (.ret (.lit true)) (.ret (.lit false))
 | v=>.ret v
def wG (v:AV D.E):C Bool:=match v with
 | .lit b=>.ret b
 | .bool b=>.split b (.ret true) (.ret false)
 | _=>.fail
def QdI (c a b:AV D.E):C (AV D.E):=az (wG D c) λc=>bE c (.ret a) (.ret b)
def PE (s:St D.E) (e:TypeId) (cs:List (AV D.E)):C (AV D.E×St D.E):=bB (jy one cs) (aP (s.new (.cells cs e false)) λb s=>.ret (.ptr b (nat_lit 0),s))
end
abbrev uj (E:Nat->Type):=FuncId->List (AV E)->St E->C (AV E×St E)
def XD {E:Nat->Type}:uj E:=λ_ _ _=>.fail
section
variable (P:Program) (D:Data) (cd:TypeId->Option Nat)
def ko (mu:Bool) (b:Builtin) (s:St D.E) (c:List TypeId) (a:List (AV D.E)):C (AV D.E×St D.E):=match b with
 | .append=>az (cR (gT c (nat_lit 0))) λt=>az (cR (gT c (nat_lit 1))) λu=>az (cR (gT a (nat_lit 0))) λd=>az (cR (gT a (nat_lit 1))) λx=>JL P D cd mu s t u d x
 | .copy=>az (cR (gT c (nat_lit 0))) λt=>az (cR (gT a (nat_lit 0))) λd=>az (cR (gT a (nat_lit 1))) λx=>Qbz P D cd s t d x
 | .len=>az (cR (gT c (nat_lit 0))) λt=>az (cR (gT a (nat_lit 0))) λx=>iF D s (Qgy P D t x)
 | .min=>az (cR (gT a (nat_lit 0))) λx=>iF D s (oQ D true (om (nat_lit 1) a) x)
 | .max=>az (cR (gT a (nat_lit 0))) λx=>iF D s (oQ D false (om (nat_lit 1) a) x)
 | .clear=>az (cR (gT c (nat_lit 0))) λt=>az (cR (gT a (nat_lit 0))) λx=>JR P D s t x
 | _=>.fail
def QgE (v:AV D.E):C (FuncId×List (AV D.E)×List (AV D.E)):=match v with
 | .func fn first captured=>match fn with
  | .func f=>.ret (f,first,captured)
  | _=>.fail
 | _=>.fail
def QbB (φ:T (AV D.E)) (x:Operand) (c:Call):C (FuncId×List (AV D.E)):=az (ev P D φ x) λv=>aP (QgE D v) λf p=>az (Pt P D φ c.args.toList) λargs=>match p with
 | (a,cs)=>.ret (f,nz a (nz args cs))
def QgF (mu:Bool) (c:Callee) (ex:uj D.E) (s:St D.E) (φ:T (AV D.E)) (cl:Call):C (AV D.E×St D.E):=match c with
 | .value x=>aP (QbB P D φ x cl) λf args=>ex f args s
 | .builtin b=>az (Pt P D φ cl.args.toList) λa=>ko P D cd mu b s cl.argTypes.toList a
 | _=>.fail
def PF (mu:Bool) (op:Op) (ex:uj D.E) (s:St D.E) (φ:T (AV D.E)):C (AV D.E×St D.E):=match op with
 | .move x=>iF D s (ev P D φ x)
 | .assign x=>iF D s (ev P D φ x)
 | .pick c a b=>az (ev P D φ c) λc=>az (ev P D φ a) λa=>az (ev P D φ b) λb=>iF D s (QdI D c a b)
 | .alloc e=>az (zeroOf P D e) λz=>PE D s e (dh z)
 | .box e x=>az (ev P D φ x) λv=>PE D s e (dh v)
 | .build t parts=>iF D s (JN P D φ t parts.toList)
 | .buildSlice t len parts=>zX P D cd mu s φ t len parts.toList
 | .load t a=>az (ev P D φ a) λv=>iF D s (Dp P D s t v)
 | .store t a x=>az (ev P D φ a) λa=>az (ev P D φ x) λx=>QgD D (JJ P D s t a x)
 | .nilCheck x=>az (ev P D φ x) λv=>iF D s (PC D v)
 | .binOp op t d g _=>az (ev P D φ d) λx=>az (ev P D φ g) λy=>iF D s (Qgw P D op t d g x y)
 | .unOp op _ x=>az (ev P D φ x) λx=>iF D s (unA D op x)
 | .convert a b x=>az (ev P D φ x) λx=>PD P D cd mu s a b x
 | .makeInterface t x=>az (ev P D φ x) λx=>iF D s (JO P D t x)
 | .makeFunc fn first captured=>az (Pt P D φ first.toList) λf=>az (Pt P D φ captured.toList) λc=>.ret (.func fn f c,s)
 | .makeSlice t l c=>az (ev P D φ l) λl=>az (ev P D φ c) λc=>Dt P D cd mu s t l c
 | .slice t x lo hi mx=>az (ev P D φ x) λx=>az (evO P D φ lo) λlo=>az (evO P D φ hi) λhi=>az (evO P D φ mx) λmx=>iF D s (PA P D t x lo hi mx)
 | .fieldAddr t x f=>az (ev P D φ x) λx=>iF D s (ui P D t x f)
 | .field t x f=>az (ev P D φ x) λx=>iF D s (JP P D t x f)
 | .indexAddr t x i=>az (ev P D φ x) λx=>az (ev P D φ i) λi=>iF D s (zY P D t x i)
 | .index t x i=>az (ev P D φ x) λx=>az (ev P D φ i) λi=>iF D s (JQ P D t x i)
 | .extract t i=>az (ev P D φ t) λx=>iF D s (zZ D x i)
 | .call c=>QgF P D cd mu c.callee ex s φ c
 | _=>.fail
end
def QdJ (d:TypeDesc):Option TypeId:=match d with
 | .slice e=>some e
 | _=>none
def QgG (d:TypeDesc):Option (TypeId×TypeId):=match d with
 | .map k v=>some (k,v)
 | _=>none
section
variable (P:Program)
def QgH (b:Builtin) (a:List TypeId):Nat:=match b with
 | .len=>match a with
  | t::_=>Option.rec (motive:=λ_=>Nat) (nat_lit 3) (λd=>Option.rec (motive:=λ_=>Nat) (nat_lit 1) (λ_=>nat_lit 2) (QgG d)) (P.underlying t)
  | []=>nat_lit 3
 | .min=>nat_lit 1
 | .max=>nat_lit 1
 | _=>nat_lit 3
def iG (o:Oper):Nat:=match o.op with
 | .move _=>nat_lit 1
 | .assign _=>nat_lit 1
 | .pick _ _ _=>nat_lit 1
 | .alloc _=>nat_lit 1
 | .box _ _=>nat_lit 1
 | .build _ _=>nat_lit 1
 | .buildSlice _ _ _=>nat_lit 1
 | .nilCheck _=>nat_lit 1
 | .binOp _ _ _ _ _=>nat_lit 1
 | .unOp _ _ _=>nat_lit 1
 | .makeInterface _ _=>nat_lit 1
 | .makeFunc _ _ _=>nat_lit 1
 | .makeMap _ _=>nat_lit 1
 | .makeSlice _ _ _=>nat_lit 1
 | .slice _ _ _ _ _=>nat_lit 1
 | .fieldAddr _ _ _=>nat_lit 1
 | .field _ _ _=>nat_lit 1
 | .indexAddr _ _ _=>nat_lit 1
 | .index _ _ _=>nat_lit 1
 | .extract _ _=>nat_lit 1
 | .load _ _=>nat_lit 2
 | .lookup _ _ _ _=>nat_lit 2
 | .convert src _ _=>Option.rec (motive:=λ_=>Nat) (nat_lit 3) (λd=>Option.rec (motive:=λ_=>Nat) (nat_lit 1) (λ_=>nat_lit 2) (QdJ d)) (P.underlying src)
 | .call c=>match c.callee with
  | .builtin b=>QgH P b c.argTypes.toList
  | _=>nat_lit 3
 | _=>nat_lit 3
def wH (ms:List Nat) (es:List Edge):Nat->Option Nat:=
 List.rec (motive:=λ_=>Nat->Option Nat) (λm=>some m)
  (λe _ a m=>oE (Region.binds .any e) (oB (gT ms e.on) λk=>a (Nat.lor (Nat.lor m (Nat.pow (nat_lit 2) e.on)) k)) (a m)) es
def JS (os:List Oper):List Nat->Option (List Nat):=
 List.rec (motive:=λ_=>List Nat->Option (List Nat)) (λms=>some ms)
  (λo _ a ms=>oB (wH ms o.after.toList (nat_lit 0)) λm=>a (nz ms [m])) os
def jX (ms:List Nat) (i j:Nat):Bool:=Option.rec (motive:=λ_=>Bool) false (λm=>Nat.beq (Nat.mod (Nat.div m (Nat.pow (nat_lit 2) i)) (nat_lit 2)) (nat_lit 1)) (gT ms j)
def BP (d:Nat) (x:Operand):Bool:=match x with
 | .tmp t=>Nat.beq t d
 | _=>false
def BQ (ops:List Oper) (o:Oper):Option Tmp:=oB o.guard λp=>oB (gT ops p.1) λx=>x.dst
def reads (ops:List Oper) (o:Oper) (d:Nat):Bool:=Bool.or (BK (BP d) o.op.operands.toList) (Option.rec (motive:=λ_=>Bool) false (λt=>Nat.beq t d) (BQ ops o))
def ordered (ms:List Nat) (i j:Nat):Bool:=Bool.or (jX ms i j) (jX ms j i)
def PG (ops:List Oper) (ms:List Nat) (i j:Nat) (a b:Oper):Bool:=
 Bool.or (Nat.beq i j) (Bool.and (Option.rec (motive:=λ_=>Bool) true (λd=>Bool.and (Bool.or (ordered ms i j) (Bool.not (reads ops a d))) (Option.rec (motive:=λ_=>Bool) true (λe=>Bool.not (Nat.beq d e)) a.dst)) b.dst)
  (Bool.or (Bool.not (Bool.and (Nat.beq (iG P a) (nat_lit 3)) (Nat.beq (iG P b) (nat_lit 3)))) (ordered ms i j)))
def JT {α:Type} (f:Nat->α->Bool) (l:List α):Nat->Bool:=
 List.rec (motive:=λ_=>Nat->Bool) (λ_=>true) (λa _ b i=>Bool.rec (motive:=λ_=>Bool) false (b (Nat.succ i)) (f i a)) l
def PH (o:Oper):Bool:=match o.op with
 | .select _ _=>false
 | _=>true
def BR (ms:List Nat) (i:Nat) (o:Oper):Bool:=Option.rec (motive:=λ_=>Bool) true (λp=>jX ms p.1 i) o.guard
def Du (ops:List Oper):Option (List Nat):=oB (JS ops []) λms=>
 oI (JT (λi a=>Bool.and (Bool.and (PH a) (BR ms i a)) (JT (λj b=>PG P ops ms i j a b) ops (nat_lit 0))) ops (nat_lit 0)) (some ms)
end
section
variable {E:Nat->Type}
def eV:C Unit:=.ret ()
def wI (b:Bool):C Unit:=bB b eV
def X0 (a b:Fn):Bool:=match a with
 | .func f=>match b with
  | .func g=>Nat.beq f g
  | _=>false
 | _=>false
def wJ (x y:AV E):C Unit:=match x with
 | .bool a=>aP (zh y) λb _=>.ff (a=b) eV
 | .lit a=>match y with
  | .lit b=>wI (Bool.rec (motive:=λ_=>Bool) (Bool.not b) b a)
  | .bool b=>.ff (a=b) eV
  | _=>.fail
 | .int k a=>aP (cT y) λf b=>bB (BI k f) (.ff (a=b) eV)
 | .num k a=>match y with
  | .num f b=>bB (BI k f) (wI (XC a b))
  | .int f b=>bB (BI k f) (.ff (a=b) eV)
  | _=>.fail
 | .str a=>az (fY y) λb=>.ff (a=b) eV
 | .fT=>match y with
  | .fT=>eV
  | _=>.fail
 | .ptr b o=>match y with
  | .ptr d h=>wI (Bool.and (Nat.beq b d) (Nat.beq o h))
  | _=>.fail
 | .kA b o=>match y with
  | .kA d h=>wI (Bool.and (Nat.beq b d) (Nat.beq o h))
  | _=>.fail
 | .mg b k i j=>match y with
  | .mg d f q m=>bB (Bool.and (Nat.beq b d) (Bool.and (Nat.beq k f) (Nat.beq j m))) (.ff (i=q) eV)
  | _=>.fail
 | .nA c x j=>match y with
  | .nA l p m=>bB (Nat.beq j m) (az (JH c l p) λp=>.ff (x=p) eV)
  | _=>.fail
 | .dF=>match y with
  | .dF=>eV
  | _=>.fail
 | .own b k n=>match y with
  | .own d f g=>bB (Bool.and (Nat.beq b d) (Nat.beq k f)) (.ff (n=g) eV)
  | _=>.fail
 | .pre b k n=>match y with
  | .pre d f g=>bB (Bool.and (Nat.beq b d) (Nat.beq k f)) (.ff (n=g) eV)
  | _=>.fail
 | .part b k o n=>match y with
  | .part d f h g=>bB (Bool.and (Nat.beq b d) (Nat.beq k f)) (.ff (o=h) (.ff (n=g) eV))
  | _=>.fail
 | .grow c xs b=>match y with
  | .grow l e d=>bB (Nat.beq b d) (az (gQ c l e) λe=>.ff (xs=e) eV)
  | _=>.fail
 | .sub b o n=>match y with
  | .sub d h g=>wI (Bool.and (Nat.beq b d) (Bool.and (Nat.beq o h) (Nat.beq n g)))
  | _=>.fail
 | .list c xs=>match y with
  | .list l e=>az (gQ c l e) λe=>.ff (xs=e) eV
  | _=>.fail
 | .qB=>match y with
  | .qB=>eV
  | _=>.fail
 | .map a=>match y with
  | .map b=>wI (Nat.beq a b)
  | _=>.fail
 | .nilFunc=>match y with
  | .nilFunc=>eV
  | _=>.fail
 | .nilIface=>match y with
  | .nilIface=>eV
  | _=>.fail
 | _=>.fail
def z6 (xs:List (AV E)):List (AV E)->C Unit:=
 List.rec (motive:=λ_=>List (AV E)->C Unit) (λa=>List.rec (motive:=λ_=>C Unit) eV (λ_ _ _=>.fail) a)
  (λx _ b a=>List.rec (motive:=λ_=>C Unit) .fail (λy a _=>az (wJ x y) λ_=>b a) a) xs
def PI (x y:AV E):C Unit:=match x with
 | .agg xs=>match y with
  | .agg a=>z6 xs a
  | _=>.fail
 | .tuple xs=>match y with
  | .tuple a=>z6 xs a
  | _=>.fail
 | .func f xs a=>match y with
  | .func g b c=>bB (X0 f g) (az (z6 xs b) λ_=>z6 a c)
  | _=>.fail
 | x=>wJ x y
end
section
variable (P:Program) (D:Data) (cd:TypeId->Option Nat)
def guards (ops:List Oper) (i:Nat):Bool:=BK (λo=>Option.rec (motive:=λ_=>Bool) false (λp=>Nat.beq p.1 i) o.guard) ops
def yA (ops:List Oper) (φ:T (AV D.E)) (j:Nat):Option (AV D.E):=oB (gT ops j) λo=>oB o.dst λt=>φ.get t
def JU (w:Bool) (v:AV D.E):C Bool:=match v with
 | .lit b=>.ret (Bool.rec (motive:=λ_=>Bool) (Bool.not w) w b)
 | .bool b=>.split b (.ret w) (.ret (Bool.not w))
 | _=>.ret false
def mj (ops:List Oper) (φ:T (AV D.E)) (o:Oper):C Bool:=match o.guard with
 | none=>.ret true
 | some p=>match p with
  | (j,w)=>az (cR (yA D ops φ j)) λv=>JU D w v
def wK (N:Nat) (φ:T (AV D.E)) (d:Option Tmp) (v:AV D.E):C (T (AV D.E)):=
 Option.rec (motive:=λ_=>C (T (AV D.E))) (.ret φ) (λt=>bB (Nat.ble (Nat.succ t) N) (cR (φ.put t (some v)))) d
def Gh:Bool:=Option.isSome (cd (nat_lit 4000000000))
def clo (v:AV D.E):AV D.E:=match v with
 | .bool b=>.lit (Bool.rec (motive:=λ_=>Bool) false true b)
 | .int k n=>Option.rec (motive:=λ_=>AV D.E) (.num k n) (λc=>wE c) (F9 k n)
 | .num k n=>Option.rec (motive:=λ_=>AV D.E) (.num k n) (λc=>wE c) (F9 k n)
 | v=>v
def JV (mu:Bool) (g:Bool) (op:Op) (ex:uj D.E) (s:St D.E) (φ:T (AV D.E)):C (AV D.E×St D.E):=
 bif Gh cd then aP (knw (PF P D cd mu op ex s φ)) (λv s=>.ret (clo D v,s)) else bif g then aP (PF P D cd mu op ex s φ) (λv s=>az (settle D v) λv=>.ret (v,s)) else PF P D cd mu op ex s φ
def qT (mu:Bool) (ex:uj D.E) (ops:List Oper) (N:Nat) (l:List Oper):Nat->St D.E->T (AV D.E)->C (St D.E×T (AV D.E)):=
 List.rec (motive:=λ_=>Nat->St D.E->T (AV D.E)->C (St D.E×T (AV D.E))) (λ_ s φ=>.ret (s,φ))
  (λo _ a i s φ=>az (mj D ops φ o) λb=>bE b
   (aP (JV P D cd mu (guards ops i) o.op ex s φ) λv c=>az (wK D N φ o.dst v) λφ=>bB (Nat.ble s.nx c.nx) (a (Nat.succ i) c φ))
   (az (wK D N φ o.dst undef) λφ=>a (Nat.succ i) s φ)) l
structure Rc where
 o:Oper
 g:Bool
 cls:Nat
 v:AV D.E
 φ:T (AV D.E)
 lo:Nat
 hi:Nat
 pc:T (AO D.E)
def piece (r:Rc D):Bool:=Bool.and (Nat.beq r.cls (nat_lit 1)) (Nat.ble (Nat.succ r.lo) r.hi)
def kC (rH:Nat->Bool) (rs:List (Rc D)):Nat->T (AO D.E)->C (T (AO D.E)):=
 List.rec (motive:=λ_=>Nat->T (AO D.E)->C (T (AO D.E))) (λ_ h=>.ret h)
  (λr _ a j h=>bE (Bool.and (piece D r) (rH j)) (az (cR (r.pc.get r.lo)) λo=>az (cR (h.put r.lo (some o))) λh=>a (Nat.succ j) h) (a (Nat.succ j) h)) rs
def loadAt (g:Bool) (φ:T (AV D.E)) (o:Oper) (rH:Nat->Bool) (rs:List (Rc D)) (h:T (AO D.E)):C (AV D.E):=
 az (kC D rH rs (nat_lit 0) h) λk=>aP (JV P D cd false g o.op XD ⟨k,nat_lit 0⟩ φ) λv _=>.ret v
def PJ (x:Operand):Option Tmp:=match x with
 | .tmp t=>some t
 | _=>none
def z7 (φ:T (AV D.E)) (c:List (Option Tmp)):T (AV D.E)->C (T (AV D.E)):=
 List.rec (motive:=λ_=>T (AV D.E)->C (T (AV D.E))) (λa=>.ret a)
  (λx _ b a=>Option.rec (motive:=λ_=>C (T (AV D.E))) (b a) (λt=>Option.rec (motive:=λ_=>C (T (AV D.E))) (b a) (λv=>az (cR (a.put t (some v))) λa=>b a) (φ.get t)) x) c
def pR (ops:List Oper) (o:Oper):List (Option Tmp):=BQ ops o::s8 PJ o.op.operands.toList
structure Ds where
 φ:T (AV D.E)
 h:T (AO D.E)
 hs:List (T (AO D.E))
 nx:Nat
 last:Nat
 es:List Nat
 rs:List (Rc D)
def b_ (ms:List Nat) (last j:Nat):Bool:=Nat.rec (motive:=λ_=>Bool) true (λe _=>Bool.not (jX ms j e)) last
def PK (mu:Bool) (N:Nat) (g:Bool) (o:Oper) (a:T (AV D.E)) (d:Ds D):C (Ds D):=aP (JV P D cd mu g o.op XD ⟨.nil,d.nx⟩ a) λv s=>az (wK D N d.φ o.dst v) λφ=>bB (Bool.and (Nat.ble d.nx s.nx) (Nat.ble s.nx (Nat.succ d.nx)))
 (.ret ⟨φ,d.h,d.hs,s.nx,d.last,d.es,nz d.rs [⟨o,g,nat_lit 1,v,a,d.nx,s.nx,s.h⟩]⟩)
def PL (N:Nat) (ms:List Nat) (i:Nat) (g:Bool) (o:Oper) (a:T (AV D.E)) (d:Ds D):C (Ds D):=az (loadAt P D cd g a o (λj=>Bool.and (jX ms j i) (b_ ms d.last j)) d.rs d.h) λv=>az (wK D N d.φ o.dst v) λφ=>
 .ret ⟨φ,d.h,d.hs,d.nx,d.last,d.es,nz d.rs [⟨o,g,nat_lit 2,v,a,d.nx,d.nx,.nil⟩]⟩
def X1 (mu:Bool) (ex:uj D.E) (N:Nat) (ms:List Nat) (i:Nat) (g:Bool) (o:Oper) (a:T (AV D.E)) (d:Ds D):C (Ds D):=bB (Nat.beq (iG P o) (nat_lit 3)) (az (kC D (λj=>Bool.and (jX ms j i) (b_ ms d.last j)) d.rs (nat_lit 0) d.h) λk=>
 aP (JV P D cd mu g o.op ex ⟨k,d.nx⟩ a) λv s=>az (wK D N d.φ o.dst v) λφ=>bB (Nat.ble d.nx s.nx) (.ret ⟨φ,s.h,nz d.hs [s.h],s.nx,Nat.succ i,nz d.es [i],nz d.rs [⟨o,g,nat_lit 3,v,a,d.nx,s.nx,.nil⟩]⟩))
def PM (N:Nat) (g:Bool) (o:Oper) (a:T (AV D.E)) (d:Ds D):C (Ds D):=az (wK D N d.φ o.dst undef) λφ=>.ret ⟨φ,d.h,d.hs,d.nx,d.last,d.es,nz d.rs [⟨o,g,nat_lit 0,undef,a,d.nx,d.nx,.nil⟩]⟩
def BS (mu:Bool) (ex:uj D.E) (ops:List Oper) (N:Nat) (ms:List Nat) (i:Nat) (o:Oper) (d:Ds D):C (Ds D):=az (z7 D d.φ (pR ops o) .nil) λa=>az (mj D ops a o) λb=>bE b
 (bE (Nat.beq (iG P o) (nat_lit 1)) (PK P D cd mu N (guards ops i) o a d) (bE (Nat.beq (iG P o) (nat_lit 2)) (PL P D cd N ms i (guards ops i) o a d) (X1 P D cd mu ex N ms i (guards ops i) o a d)))
 (PM D N (guards ops i) o a d)
def BU (mu:Bool) (ex:uj D.E) (ops:List Oper) (N:Nat) (ms:List Nat) (l:List Oper):Nat->Ds D->C (Ds D):=
 List.rec (motive:=λ_=>Nat->Ds D->C (Ds D)) (λ_ d=>.ret d) (λo _ a i d=>az (BS P D cd mu ex ops N ms i o d) λd=>a (Nat.succ i) d) l
def BV (ms:List Nat) (rs:List (Rc D)) (i last:Nat) (r:Rc D) (h:T (AO D.E)):C Unit:=az (loadAt P D cd r.g r.φ r.o (λj=>Bool.and (jX ms j i) (b_ ms last j)) rs h) λv=>PI v r.v
def oR (ms:List Nat) (i last:Nat) (es:List Nat):Bool:=Bool.and (b_ ms last i) (List.rec (motive:=λ_=>Bool) true (λe _ _=>Bool.not (jX ms e i)) es)
def kd (ms:List Nat) (rs:List (Rc D)) (i:Nat) (r:Rc D) (hs:List (T (AO D.E))):Nat->List Nat->C Unit:=
 List.rec (motive:=λ_=>Nat->List Nat->C Unit) (λ_ _=>eV)
  (λh _ a last es=>az (bE (oR ms i last es) (BV P D cd ms rs i last r h) eV) λ_=>List.rec (motive:=λ_=>C Unit) eV (λe es _=>a (Nat.succ e) es) es) hs
def Gi (ms:List Nat) (all:List (Rc D)) (hs:List (T (AO D.E))) (es:List Nat) (l:List (Rc D)):Nat->C Unit:=
 List.rec (motive:=λ_=>Nat->C Unit) (λ_=>eV) (λr _ a i=>az (bE (Nat.beq r.cls (nat_lit 2)) (kd P D cd ms all i r hs (nat_lit 0) es) eV) λ_=>a (Nat.succ i)) l
def Dv (mu:Bool) (ex:uj D.E) (ops:List Oper) (N:Nat) (s:St D.E) (φ:T (AV D.E)):C (St D.E×T (AV D.E)):=az (cR (Du P ops)) λms=>az (BU P D cd mu ex ops N ms ops (nat_lit 0) ⟨φ,s.h,[s.h],s.nx,nat_lit 0,[],[]⟩) λd=>
 az (Gi P D cd ms d.rs d.hs d.es d.rs (nat_lit 0)) λ_=>
  az (kC D (b_ ms d.last) d.rs (nat_lit 0) d.h) λh=>.ret (⟨h,d.nx⟩,d.φ)
end
abbrev Ren:=List (Nat×Nat)
def d_ (r:Ren) (t:Nat):Option Nat:=List.rec (motive:=λ_=>Option Nat) none (λp _ a=>bif Nat.beq p.1 t then some p.2 else a) r
def zp (r:Ren) (b:Nat):Bool:=BK (λp=>Nat.beq p.2 b) r
def cA.{u} {α:Type u} (l:List (Nat×α)) (t:Nat):Option α:=List.rec (motive:=λ_=>Option α) none (λp _ a=>bif Nat.beq p.1 t then some p.2 else a) l
structure Mt (E:Nat->Type) where
 s:St E
 r:Ren
 todo:Ren
section
variable (D:Data)
def pair (m:Mt D.E) (t b:Nat):C (Mt D.E):=Option.rec (motive:=λ_=>C (Mt D.E)) (bE (zp m.r b) .fail (.ret ⟨m.s,(t,b)::m.r,(t,b)::m.todo⟩)) (λa=>bB (Nat.beq a b) (.ret m)) (d_ m.r t)
def JW (m:Mt D.E) (t b:Nat):C (Mt D.E):=bE (zp m.r b) .fail (pair D m t b)
def rL (m:Mt D.E) (b:Nat):C (Ar D.E×Mt D.E):=bE (zp m.r b) .fail (az (kB m.s b) λa=>az (m.s.set b (some (.arr a.c a.xs a.e true))) λs=>.ret (a,⟨s,m.r,m.todo⟩))
def PN (m:Mt D.E) (a:AV D.E) (c:Nat) (d:List (D.E c)):C (Mt D.E):=match a with
 | .list e xs=>az (gQ c e xs) λxs=>.ff (xs=d) (.ret m)
 | .grow e xs _=>az (gQ c e xs) λxs=>.ff (xs=d) (.ret m)
 | .dF=>.ff ([]=d) (.ret m)
 | .own b _ _=>aP (rL D m b) λa m=>az (gQ c a.c a.xs) λxs=>.ff (xs=d) (.ret m)
 | .pre b _ n=>aP (rL D m b) λa m=>az (gQ c a.c a.xs) λxs=>.ff (dE xs n=d) (.ret m)
 | .part b _ o n=>aP (rL D m b) λa m=>az (gQ c a.c a.xs) λxs=>.ff (rK xs o n=d) (.ret m)
 | _=>.fail
def QbC (th:List (Nat×AO D.E)) (m:Mt D.E) (a k:Nat) (n:Int):C (Mt D.E):=az (cR (cA th a)) λo=>match o with
 | .arr c _ e _=>bB (Nat.beq (D.size c) k) (aP (m.s.new (.arr c [] e false)) λb s=>.ff (.ofNat (nat_lit 0)=n) (JW D ⟨s,m.r,m.todo⟩ a b))
 | _=>.fail
def QbD (th:List (Nat×AO D.E)) (m:Mt D.E) (a:Nat) (c:Nat) (d:List (D.E c)):C (Mt D.E):=az (cR (cA th a)) λo=>match o with
 | .tok c2 e=>aP (m.s.new (.tok c2 e)) λb s=>.ff ([]=d) (JW D ⟨s,m.r,m.todo⟩ a b)
 | _=>.fail
def QdK (m:Mt D.E) (b f:Nat) (d:Int) (g k:Nat) (n:Int):C (Mt D.E):=bE (zp m.r b) .fail (bB (Nat.beq f k) (az (kB m.s b) λa=>bE a.ro .fail
 (az (m.s.set b none) λs=>aP (s.new (.arr a.c (dE a.xs d) a.e false)) λb s=>.ff (d=n) (JW D ⟨s,m.r,m.todo⟩ g b))))
def QdL (m:Mt D.E) (a:AV D.E) (c:Nat) (y:D.E c) (j:Nat):C (Mt D.E):=match a with
 | .nA f x d=>bB (Nat.beq d j) (az (JH c f x) λx=>.ff (x=y) (.ret m))
 | .mg b _ i d=>bB (Nat.beq d j) (aP (rL D m b) λa m=>az (gQ c a.c a.xs) λxs=>.ff (gt (D.XU c) xs i=y) (.ret m))
 | .ptr b o=>bB (Bool.and (Nat.beq o (nat_lit 0)) (Nat.beq j (nat_lit 0))) (bE (zp m.r b) .fail (aP (QdE m.s b) λcs e=>az (uW D c cs) λx=>az (m.s.set b (some (.cells cs e true))) λs=>.ff (x=y) (.ret ⟨s,m.r,m.todo⟩)))
 | _=>.fail
def m0 (th:List (Nat×AO D.E)) (m:Mt D.E) (a t:AV D.E):C (Mt D.E):=match t with
 | .list c h=>PN D m a c h
 | .grow c h d=>match a with
  | .grow l xs b=>az (gQ c l xs) λxs=>.ff (xs=h) (pair D m d b)
  | .dF=>QbD D th m d c h
  | _=>.fail
 | .own d k n=>match a with
  | .own b e f=>bB (Nat.beq e k) (.ff (f=n) (pair D m d b))
  | .pre b e f=>QdK D m b e f d k n
  | .dF=>QbC D th m d k n
  | _=>.fail
 | .pre d k n=>match a with
  | .pre b e f=>bB (Nat.beq e k) (.ff (f=n) (pair D m d b))
  | .own b e f=>bB (Nat.beq e k) (.ff (f=n) (pair D m d b))
  | _=>.fail
 | .part d k o n=>match a with
  | .part b e g f=>bB (Nat.beq e k) (.ff (g=o) (.ff (f=n) (pair D m d b)))
  | _=>.fail
 | .ptr d o=>match a with
  | .ptr b g=>bB (Nat.beq g o) (pair D m d b)
  | _=>.fail
 | .mg d k i j=>match a with
  | .mg b e p q=>bB (Bool.and (Nat.beq e k) (Nat.beq q j)) (.ff (p=i) (pair D m d b))
  | _=>.fail
 | .sub d o n=>match a with
  | .sub b g f=>bB (Bool.and (Nat.beq g o) (Nat.beq f n)) (pair D m d b)
  | _=>.fail
 | .nA c y j=>QdL D m a c y j
 | .map _=>.fail
 | t=>az (wJ a t) λ_=>.ret m
def mL (th:List (Nat×AO D.E)) (QwY:List (AV D.E)):List (AV D.E)->Mt D.E->C (Mt D.E):=
 List.rec (motive:=λ_=>List (AV D.E)->Mt D.E->C (Mt D.E)) (λb m=>List.rec (motive:=λ_=>C (Mt D.E)) (.ret m) (λ_ _ _=>.fail) b)
  (λa _ c b m=>List.rec (motive:=λ_=>C (Mt D.E)) .fail (λt b _=>az (m0 D th m a t) λm=>c b m) b) QwY
def mV (th:List (Nat×AO D.E)) (m:Mt D.E) (a t:AV D.E):C (Mt D.E):=match t with
 | .agg b=>match a with
  | .agg QwY=>mL D th QwY b m
  | _=>.fail
 | .tuple b=>match a with
  | .tuple QwY=>mL D th QwY b m
  | _=>.fail
 | .func g xs i=>match a with
  | .func f c d=>bB (X0 f g) (az (mL D th c xs m) λm=>mL D th d i m)
  | _=>.fail
 | .iface u x=>match a with
  | .iface e h=>bB (Nat.beq e u) (m0 D th m h x)
  | _=>.fail
 | t=>m0 D th m a t
def mVs (th:List (Nat×AO D.E)) (QwY:List (AV D.E)):List (AV D.E)->Mt D.E->C (Mt D.E):=
 List.rec (motive:=λ_=>List (AV D.E)->Mt D.E->C (Mt D.E)) (λb m=>List.rec (motive:=λ_=>C (Mt D.E)) (.ret m) (λ_ _ _=>.fail) b)
  (λa _ c b m=>List.rec (motive:=λ_=>C (Mt D.E)) .fail (λt b _=>az (mV D th m a t) λm=>c b m) b) QwY
def mO (th:List (Nat×AO D.E)) (m:Mt D.E) (a t:AO D.E):C (Mt D.E):=match t with
 | .cells g e ro=>match a with
  | .cells QwY d b=>bB (Bool.and (Nat.beq d e) (Bool.rec (motive:=λ_=>Bool) (Bool.not b) b ro)) (mVs D th QwY g m)
  | _=>.fail
 | .arr c h e ro=>match a with
  | .arr f xs d b=>bB (Bool.and (Nat.beq d e) (Bool.rec (motive:=λ_=>Bool) (Bool.not b) b ro)) (az (gQ c f xs) λxs=>.ff (xs=h) (.ret m))
  | _=>.fail
 | .tok c e=>match a with
  | .tok f d=>bB (Bool.and (Nat.beq f c) (Nat.beq d e)) (.ret m)
  | _=>.fail
def PO (th:List (Nat×AO D.E)) (n:Nat):Mt D.E->C (Mt D.E):=
 Nat.rec (motive:=λ_=>Mt D.E->C (Mt D.E)) (λ_=>.fail)
  (λ_ b m=>List.rec (motive:=λ_=>C (Mt D.E)) (.ret m) (λp r _=>az (cR (cA th p.1)) λt=>az (cR (m.s.h.get p.2)) λa=>az (mO D th ⟨m.s,m.r,r⟩ a t) b) m.todo) n
def PQ (s:St D.E) (r:Ren) (th:List (Nat×AO D.E)) (QwY a:List (AV D.E)):C (St D.E×Ren):=az (mVs D th QwY a ⟨s,r,r⟩) λm=>az (PO D th (nat_lit 200) m) λm=>
 bB (jy (λp=>Option.isSome (d_ m.r p.1)) th) (.ret (m.s,m.r))
structure Iv (p:Prop):Prop where
 out:p
structure bh where
 f:FuncId
 Y:Type
 oM:List (AV D.E)->St D.E->C Y
 pre:Y->Prop
 args:Y->List (AV D.E)
 heap:Y->List (Nat×AO D.E)
 res:Y->AV D.E
 dy:Y->List (Nat×AO D.E)
 jY:Nat
 oS:Nat
def rn (r:Ren) (a nx t:Nat):Nat:=Option.rec (motive:=λ_=>Nat) (Nat.add nx (Nat.sub t a)) (λb=>b) (d_ r t)
def BW (f:Nat->Nat) (v:AV D.E):AV D.E:=match v with
 | .ptr b o=>.ptr (f b) o
 | .mg b k i j=>.mg (f b) k i j
 | .own b k n=>.own (f b) k n
 | .pre b k n=>.pre (f b) k n
 | .part b k o n=>.part (f b) k o n
 | .grow c xs b=>.grow c xs (f b)
 | .sub b o n=>.sub (f b) o n
 | .map r=>.map (f r)
 | v=>v
def MJ (f:Nat->Nat) (v:AV D.E):AV D.E:=match v with
 | .agg cs=>.agg (s8 (BW D f) cs)
 | .tuple cs=>.tuple (s8 (BW D f) cs)
 | .func g xs a=>.func g (s8 (BW D f) xs) (s8 (BW D f) a)
 | .iface t x=>.iface t (BW D f x)
 | v=>BW D f v
def PR (f:Nat->Nat) (v:AV D.E):AV D.E:=match v with
 | .tuple cs=>.tuple (s8 (MJ D f) cs)
 | v=>MJ D f v
def BX (f:Nat->Nat) (o:AO D.E):AO D.E:=match o with
 | .cells cs e ro=>.cells (s8 (MJ D f) cs) e ro
 | o=>o
def XE (v:AV D.E):Bool:=match v with
 | .agg _=>false
 | .tuple _=>false
 | .func _ _ _=>false
 | .iface _ _=>false
 | _=>true
def okV (v:AV D.E):Bool:=match v with
 | .agg cs=>jy (XE D) cs
 | .tuple cs=>jy (XE D) cs
 | .func _ xs a=>Bool.and (jy (XE D) xs) (jy (XE D) a)
 | .iface _ x=>XE D x
 | _=>true
def QgJ (v:AV D.E):Bool:=match v with
 | .tuple cs=>jy (okV D) cs
 | v=>okV D v
def okO (o:AO D.E):Bool:=match o with
 | .cells cs _ _=>jy (okV D) cs
 | _=>true
def QdM (r:Ren) (l:List (Nat×AO D.E)):T (AO D.E)->C (T (AO D.E)):=List.rec (motive:=λ_=>T (AO D.E)->C (T (AO D.E))) (λh=>.ret h) (λp _ a h=>az (cR (d_ r p.1)) λb=>az (cR (h.put b none)) a) l
def inP (f:Nat->Nat) (l:List (Nat×AO D.E)):T (AO D.E)->C (T (AO D.E)):=List.rec (motive:=λ_=>T (AO D.E)->C (T (AO D.E))) (λh=>.ret h) (λp _ a h=>az (a h) λh=>cR (h.put (f p.1) (some (BX D f p.2)))) l
def below (n:Nat) (l:List (Nat×AO D.E)):Bool:=jy (λp=>Nat.ble (Nat.succ p.1) n) l
def PT (k:bh D) (y:k.Y) (args:List (AV D.E)) (s:St D.E):C (AV D.E×St D.E):=.ff (Iv (k.pre y)) (bB (Bool.and (Bool.and (below D k.jY (k.heap y)) (Nat.ble k.jY k.oS)) (Bool.and (QgJ D (k.res y)) (jy (λp=>okO D p.2) (k.dy y)))) (aP (PQ D s [] (k.heap y) args (k.args y)) λa r=>
 az (QdM D r (k.heap y) a.h) λb=>az (inP D (rn r k.jY a.nx) (k.dy y) b) λc=>.ret (PR D (rn r k.jY a.nx) (k.res y),⟨c,Nat.add a.nx (Nat.sub k.oS k.jY)⟩)))
def BY {α:Type} (x:C α):Bool:=C.rec (motive:=λ_=>Bool) (λ_=>false) true (λ_ _ c=>c) (λ_ _ _ a b=>Bool.and a b) (λ_ _ c=>c) x
def X2 (tab:List (bh D)):uj D.E:=λf args s=>List.rec (motive:=λ_=>C (AV D.E×St D.E)) .fail
 (λk _ a=>bE (Nat.beq k.f f) (bE (BY (k.oM args s)) a (az (k.oM args s) λy=>PT D k y args s)) a) tab
inductive Ex where
 | normal
 | exit (id:Nat)
 | ret
inductive Hint where
 | lock (t:Nat)
 | QdN (t n:Nat)
 | fact (t:Nat)
 | PU (b o n:Nat)
structure iH where
 X:Type
 aO:List Nat
 sl:X->List (Nat×AV D.E)
 kp:List Nat
 pc:X->List (Nat×AO D.E)
 nx:Nat
 inv:X->Prop
 me:X->Nat
structure QgK where
 K:Type
 L:K->iH D
 E:Option (iH D)
structure cH where
 hs:List (Nat×Hint)
 mu:List Nat
 lp:List (Nat×iH D)
 jn:List (Nat×iH D)
 un:Nat
 kf:List (Nat×QgK D)
abbrev Dw:=Ex->St D.E->T (AV D.E)->Prop
def JX (v:AV D.E):Prop:=match v with
 | .int k n=>fK k n
 | .str s=>aG (dD s) 9223372036854775807
 | .list _ xs=>aG (ag xs) 9223372036854775807
 | .grow _ xs _=>aG (ag xs) 9223372036854775807
 | .own _ _ n=>(aG zI n&&aG n 9223372036854775807)
 | _=>True
def PV (l:List (AV D.E)):Prop:=List.rec (motive:=λ_=>Prop) True (λv _ a=>JX D v/\a) l
def JY (v:AV D.E):Prop:=match v with
 | .agg l=>PV D l
 | .tuple l=>PV D l
 | v=>JX D v
def PW (k:IntKind) (x:Int) (n:Nat):C (AV D.E):=Nat.rec (motive:=λ_=>C (AV D.E)) (ask (aB x zI) (.ret (.num k zI))) (λm a=>.split (aB x (.ofNat (Nat.succ m))) (.ret (.num k (.ofNat (Nat.succ m)))) a) n
def Dx (v:AV D.E) (n:Nat):C (AV D.E):=match v with
 | .int k x=>PW D k x n
 | v=>.ret v
def JZ (s:St D.E) (v:AV D.E):C (AV D.E×St D.E):=match v with
 | .own b _ _=>aP (rL D ⟨s,[],[]⟩ b) λa m=>.ret (.list a.c a.xs,m.s)
 | .pre b _ n=>aP (rL D ⟨s,[],[]⟩ b) λa m=>.ret (.list a.c (dE a.xs n),m.s)
 | .part b _ o n=>aP (rL D ⟨s,[],[]⟩ b) λa m=>.ret (.list a.c (rK a.xs o n),m.s)
 | .grow c xs _=>.ret (.list c xs,s)
 | v=>.ret (v,s)
def Gj (b o n:Nat) (s:St D.E):C (St D.E):=az (cR (s.h.get b)) λa=>match a with
 | .cells cs e ro=>az (cR (gT cs o)) λv=>az (Dx D v n) λv=>s.set b (some (.cells (cS cs o v) e ro))
 | _=>.fail
def z_ (h:Hint) (s:St D.E) (φ:T (AV D.E)):C (St D.E×T (AV D.E)):=match h with
 | .lock t=>az (cR (φ.get t)) λv=>aP (JZ D s v) λv s=>az (cR (φ.put t (some v))) λφ=>.ret (s,φ)
 | .QdN t n=>az (cR (φ.get t)) λv=>az (Dx D v n) λv=>az (cR (φ.put t (some v))) λφ=>.ret (s,φ)
 | .fact _=>.ret (s,φ)
 | .PU b o n=>az (Gj D b o n s) λs=>.ret (s,φ)
def QbE (h:Hint) (φ:T (AV D.E)) (K:Prop):Prop:=match h with
 | .fact t=>Option.rec (motive:=λ_=>Prop) K (λv=>JY D v->K) (φ.get t)
 | _=>K
def oT (l:List (Nat×Hint)) (id:Nat):St D.E->T (AV D.E)->(St D.E->T (AV D.E)->Prop)->Prop:=
 List.rec (motive:=λ_=>St D.E->T (AV D.E)->(St D.E->T (AV D.E)->Prop)->Prop) (λs φ K=>K s φ)
  (λp _ a s φ K=>bif Nat.beq p.1 id then QbE D p.2 φ ((z_ D p.2 s φ).wp λq=>Prod.rec (motive:=λ_=>Prop) (λs φ=>a s φ K) q) else a s φ K) l
def X3 (Q:Dw D) (K:St D.E->T (AV D.E)->Prop):Dw D:=λe s φ=>match e with
 | .normal=>K s φ
 | .exit id=>Q (.exit id) s φ
 | .ret=>Q .ret s φ
def QdO (id:Nat) (Q:Dw D):Dw D:=λe s φ=>match e with
 | .normal=>Q .normal s φ
 | .exit a=>bif Nat.beq a id then Q .normal s φ else Q (.exit a) s φ
 | .ret=>Q .ret s φ
def wL (φ:T (AV D.E)) (l:List Nat):C (List (AV D.E)):=List.rec (motive:=λ_=>C (List (AV D.E))) (.ret []) (λt _ a=>az (cR (φ.get t)) λv=>az a λr=>.ret (v::r)) l
def X4 (a:List (AV D.E)) (l:List Nat):T (AV D.E)->C (T (AV D.E)):=
 List.rec (motive:=λ_=>List (AV D.E)->T (AV D.E)->C (T (AV D.E))) (λ_ φ=>.ret φ) (λt _ b a φ=>List.rec (motive:=λ_=>C (T (AV D.E))) .fail (λv a _=>az (cR (φ.put t (some v))) λφ=>b a φ) a) l a
def MK (s:St D.E) (l:List Nat):C (List (Nat×AO D.E)):=List.rec (motive:=λ_=>C (List (Nat×AO D.E))) (.ret []) (λt _ a=>az (cR (s.h.get t)) λv=>az a λr=>.ret ((t,v)::r)) l
def ML (l:List (Nat×AO D.E)):T (AO D.E)->C (T (AO D.E)):=List.rec (motive:=λ_=>T (AO D.E)->C (T (AO D.E))) (λh=>.ret h) (λp _ a h=>az (a h) λh=>cR (h.put p.1 (some p.2))) l
def QdP {α:Type} (l:List (Nat×α)):List Nat:=s8 (λp=>p.1) l
def QdQ {α:Type} (l:List (Nat×α)):List α:=s8 (λp=>p.2) l
def fixed (base:Nat) (l:List (Nat×AO D.E)):Ren:=List.rec (motive:=λ_=>Ren) [] (λp _ a=>bif Nat.ble (Nat.succ p.1) base then(p.1,p.1)::a else a) l
def uk (base:Nat) (L:iH D) (x:L.X) (a:List (AV D.E)) (kp:List (Nat×AO D.E)) (s:St D.E) (φ:T (AV D.E)):C Unit:=
 az (wL D φ (nz L.aO (QdP (L.sl x)))) λQwY=>az (PQ D s (fixed D base (nz kp (L.pc x))) (nz kp (L.pc x)) QwY (nz a (QdQ (L.sl x)))) λ_=>eV
def J0 (base:Nat) (L:iH D) (x:L.X) (a:List (AV D.E)) (kp:List (Nat×AO D.E)):C (St D.E×T (AV D.E)):=
 az (X4 D a L.aO .nil) λφ=>az (X4 D (QdQ (L.sl x)) (QdP (L.sl x)) φ) λφ=>az (ML D (nz kp (L.pc x)) .nil) λh=>bB (Bool.and (Nat.ble base L.nx) (below D L.nx (nz kp (L.pc x)))) (.ret (⟨h,L.nx⟩,φ))
abbrev Wk:=Nat->St D.E->T (AV D.E)->Dw D->Prop
def Aa (base:Nat) (L:iH D) (body:Wk D):Wk D:=λp s φ Q=>
 (az (wL D φ L.aO) λa=>az (MK D s L.kp) λkp=>.ret (a,kp)).wp λq=>Prod.rec (motive:=λ_=>Prop) (λa kp=>
  (∃x:L.X,(uk D base L x a kp s φ).wp λ_=>Iv (L.inv x))/\
  (∀x:L.X,Iv (L.inv x)->(J0 D base L x a kp).wp λq=>Prod.rec (motive:=λ_=>Prop) (λs φ=>body (Nat.mul (nat_lit 2) p) s φ λe s φ=>match e with
   | .normal=>∃b:L.X,(uk D base L b a kp s φ).wp λ_=>Iv (L.inv b/\L.me b<L.me x)
   | .exit id=>Q (.exit id) s φ
   | .ret=>Q .ret s φ) q)) q
def PX (base:Nat) (L:iH D) (a:List (AV D.E)) (kp:List (Nat×AO D.E)) (body:Wk D) (p:Nat) (G:Nat->St D.E->T (AV D.E)->Prop) (Q:Dw D):Prop:=∀x:L.X,Iv (L.inv x)->(J0 D base L x a kp).wp λq=>Prod.rec (motive:=λ_=>Prop) (λs φ=>body (Nat.mul (nat_lit 2) p) s φ λe s φ=>match e with| .normal=>G (L.me x) s φ| .exit id=>Q (.exit id) s φ| .ret=>Q .ret s φ) q
def wM (base:Nat) (L:iH D) (b:List (AV D.E)) (kp:List (Nat×AO D.E)) (n:Nat) (s:St D.E) (φ:T (AV D.E)):Prop:=∃a:L.X,(uk D base L a b kp s φ).wp λ_=>Iv (L.inv a/\L.me a<n)
def Gk (base:Nat) (L b:iH D) (body:Wk D):Wk D:=λp s φ Q=>
 (az (wL D φ L.aO) λa=>az (MK D s L.kp) λkp=>bB (Nat.beq (kb L.aO) (kb b.aO)) (.ret (a,kp))).wp λq=>Prod.rec (motive:=λ_=>Prop) (λa kp=>
  (∃x:L.X,(uk D base L x a kp s φ).wp λ_=>Iv (L.inv x))/\
  PX D base L a kp body p (λn s φ=>wM D base L a kp n s φ\/wM D base b a kp n s φ) Q/\PX D base b a kp body p (λn s φ=>wM D base L a kp n s φ\/wM D base b a kp n s φ) Q) q
def Ab (base:Nat) (L:iH D) (b c:Wk D):Wk D:=λp s φ Q=>
 (az (wL D φ L.aO) λa=>az (MK D s L.kp) λkp=>.ret (a,kp)).wp λq=>Prod.rec (motive:=λ_=>Prop) (λa kp=>
  b (Nat.mul (nat_lit 2) p) s φ (X3 D Q λs φ=>∃x:L.X,(uk D base L x a kp s φ).wp λ_=>Iv (L.inv x))/\
  (∀x:L.X,Iv (L.inv x)->(J0 D base L x a kp).wp λq=>Prod.rec (motive:=λ_=>Prop) (λs φ=>c (Nat.succ (Nat.mul (nat_lit 2) p)) s φ Q) q)) q
def BZ (n:Nat) (body:Wk D):Wk D:=Nat.rec (motive:=λ_=>Wk D) (λ_ _ _ _=>False) (λ_ a p s φ Q=>body (Nat.mul (nat_lit 2) p) s φ λe s φ=>match e with
   | .normal=>a (Nat.add p (nat_lit 18446744073709551616)) s φ Q
   | .exit id=>Q (.exit id) s φ
   | .ret=>Q .ret s φ) n
end
section
variable (P:Program) (D:Data) (cd:TypeId->Option Nat) (ca:uj D.E) (base:Nat) (fI:cH D) (N:Nat)
def Dy (l:List Nat) (n:Nat):Bool:=BK (λm=>Nat.beq m n) l
def Df (c:Code):Wk D:=
 Code.rec (motive:=λ_=>Wk D)
  (λ_ s φ Q=>Q .normal s φ)
  (λid ops draw _ s φ Q=>oT D fI.hs id s φ λs φ=>(bif draw then Dv P D cd (Dy fI.mu id) ca ops.toList N s φ else qT P D cd (Dy fI.mu id) ca ops.toList N ops.toList (nat_lit 0) s φ).wp λq=>Prod.rec (motive:=λ_=>Prop) (λs φ=>Q .normal s φ) q)
  (λ_ _ b a p s φ Q=>Option.rec (motive:=λ_=>Prop) (Option.rec (motive:=λ_=>Prop) (b (Nat.mul (nat_lit 2) p) s φ (X3 D Q λs φ=>a (Nat.succ (Nat.mul (nat_lit 2) p)) s φ Q)) (λL=>Ab D base L b a p s φ Q) (cA fI.jn p)) (λF=>∃k:F.K,Ab D base (F.L k) b a p s φ Q) (cA fI.kf p))
  (λc _ _ b a p s φ Q=>(az (ev P D φ c) λv=>wG D v).wp λt=>bif t then b (Nat.mul (nat_lit 2) p) s φ Q else a (Nat.succ (Nat.mul (nat_lit 2) p)) s φ Q)
  (λid _ a p s φ Q=>a (Nat.mul (nat_lit 2) p) s φ (QdO D id Q))
  (λ_ a p s φ Q=>Option.rec (motive:=λ_=>Prop) (Option.rec (motive:=λ_=>Prop) (BZ D fI.un a p s φ Q) (λL=>Aa D base L a p s φ Q) (cA fI.lp p)) (λF=>∃k:F.K,Option.rec (motive:=λ_=>Prop) (Aa D base (F.L k) a p s φ Q) (λd=>Gk D base (F.L k) d a p s φ Q) F.E) (cA fI.kf p))
  (λ_ _ _ _ _ _ _ _ _ _=>False)
  (λid _ s φ Q=>Q (.exit id) s φ)
  (λ_ _ _ _ _ _=>False)
  (λ_ _ s φ Q=>Q .normal s φ)
  (λ_ _ _ _ _=>False)
  (λ_ s φ Q=>Q .ret s φ)
  (λ_ _ _ _ _=>False) c
def PY (s:St D.E) (φ:T (AV D.E)) (r:ResultVar):C (AV D.E):=match r with
 | .tmp t=>cR (φ.get t)
 | .cell a t=>az (cR (φ.get a)) λv=>Dp P D s t v
def PZ (s:St D.E) (φ:T (AV D.E)) (rs:List ResultVar):C (List (AV D.E)):=
 List.rec (motive:=λ_=>C (List (AV D.E))) (.ret []) (λr _ a=>az (PY P D s φ r) λv=>az a λb=>.ret (v::b)) rs
def wN (v:AV D.E):List (AV D.E):=match v with
 | .tuple a=>a
 | v=>[v]
def tc (b:List (AV D.E)):Nat->T (AV D.E)->C (T (AV D.E)):=
 List.rec (motive:=λ_=>Nat->T (AV D.E)->C (T (AV D.E))) (λ_ φ=>.ret φ) (λv _ a i φ=>az (cR (φ.put i (some v))) λφ=>a (Nat.succ i) φ) b
def stay (a b:List (Nat×AO D.E)):Ren:=List.rec (motive:=λ_=>Ren) [] (λp _ c=>bif Option.isSome (cA b p.1) then(p.1,p.1)::c else c) a
def named (a b:List (Nat×AO D.E)) (lo hi:Nat):Bool:=jy (λp=>Bool.or (Option.isSome (cA a p.1)) (Bool.and (Nat.ble lo p.1) (Nat.ble (Nat.succ p.1) hi))) b
def Dz (v:AV D.E):Bool:=match v with
 | .tuple a=>Bool.not (Nat.beq (kb a) (nat_lit 1))
 | _=>true
def Qnn (k:bh D) (y:k.Y) (rs:List ResultVar):Dw D:=λe s φ=>match e with
 | .exit _=>False
 | _=>(bB (Bool.and (Dz D (k.res y)) (Bool.and (named D (k.heap y) (k.dy y) k.jY k.oS) (Nat.ble k.jY k.oS))) (az (PZ P D s φ rs) λa=>PQ D s (stay D (k.dy y) (k.heap y)) (k.dy y) a (wN D (k.res y)))).wp λ_=>True
def J3 (k:bh D) (body:Code) (rs:List ResultVar) (y:k.Y):Prop:=(az (tc D (k.args y) (nat_lit 0) .nil) λφ=>az (ML D (k.heap y) .nil) λh=>.ret (φ,h)).wp λq=>Prod.rec (motive:=λ_=>Prop)
 (λφ h=>Df P D cd ca k.jY fI N body (nat_lit 1) ⟨h,k.jY⟩ φ (Qnn P D k y rs)) q
end
end
end sx
namespace sx
open Go Go.RowKit
section
variable {α β γ:Type}
variable {b:β} {a:α} {c:Bool} {x:C α} {Z Y:Nat} {X:C β} {W:Option α} {V:Option β}
theorem aE {f:α->Option β}:oB W f=some b↔∃a,W=some a/\f a=some b:=by
 cases W with
 | none=>exact⟨λh=>(nomatch h),λ⟨_,h,_⟩=>(nomatch h)⟩
 | some a=>exact⟨λh=>⟨a,rfl,h⟩,λ⟨_,h,r⟩=>by cases h;exact r⟩
def lO:oI c V=some b↔c/\V=some b:=by
 cases c
 ·exact⟨λh=>(nomatch h),λ⟨h,_⟩=>(nomatch h)⟩
 ·exact⟨λh=>⟨rfl,h⟩,λ⟨_,h⟩=>h⟩
def B0 {y:Option β}:oE c V y=some b↔(c/\V=some b)\/(c=false/\y=some b):=by
 cases c
 ·exact⟨λh=>.inr ⟨rfl,h⟩,λh=>by rcases h with⟨h,_⟩ | ⟨_,h⟩;cases h;exact h⟩
 ·exact⟨λh=>.inl ⟨rfl,h⟩,λh=>by rcases h with⟨_,h⟩ | ⟨h,_⟩;exact h;cases h⟩
theorem aq {b:α}:(C.ret a).H b↔a=b:=ZbW
def te:¬(C.fail:C α).H a:=id
theorem cK {p:Prop}:(C.ff p x).H a↔p/\x.H a:=ZbW
theorem vO {y:C α}:(C.split c x y).H a↔(c/\x.H a)\/(c=false/\y.H a):=ZbW
theorem ai {f:α->C β}:(az x f).H b↔∃a,x.H a/\(f a).H b:=by
 induction x with
 | ret a=>exact⟨λh=>⟨a,rfl,h⟩,λ⟨_,h,d⟩=>by cases aq.1 h;exact d⟩
 | fail=>exact⟨λh=>h.elim,λ⟨_,h,_⟩=>h.elim⟩
 | ff p x i=>
  show(p/\(az x f).H b)↔_
  rw[i];exact⟨λ⟨g,a,h1,d⟩=>⟨a,⟨g,h1⟩,d⟩,λ⟨a,⟨g,h1⟩,d⟩=>⟨g,a,h1,d⟩⟩
 | split c x y j k=>
  show((c/\(az x f).H b)\/(c=false/\(az y f).H b))↔_
  rw[j,k];constructor
  ·rintro(⟨e,a,h1,d⟩ | ⟨e,a,h1,d⟩)
   ·exact⟨a,.inl ⟨e,h1⟩,d⟩
   ·exact⟨a,.inr ⟨e,h1⟩,d⟩
  ·rintro⟨a,⟨e,h1⟩ | ⟨e,h1⟩,d⟩
   ·exact .inl ⟨e,a,h1,d⟩
   ·exact .inr ⟨e,a,h1,d⟩
 | want c x i=>
  show(c/\(az x f).H b)↔_
  rw[i];exact⟨λ⟨g,a,h1,d⟩=>⟨a,⟨g,h1⟩,d⟩,λ⟨a,⟨g,h1⟩,d⟩=>⟨g,a,h1,d⟩⟩
theorem bq {x:C (α×β)} {f:α->β->C γ} {r:γ}:(aP x f).H r↔∃a b,x.H (a,b)/\(f a b).H r:=by
 grind [aP,ai]
theorem bA:(bB c X).H b↔c/\X.H b:=by
 cases c
 ·exact⟨λh=>h.elim,λ⟨h,_⟩=>(nomatch h)⟩
 ·exact⟨λh=>⟨rfl,h⟩,λ⟨_,h⟩=>h⟩
theorem gY {y:C β}:(bE c X y).H b↔(c/\X.H b)\/(c=false/\y.H b):=by
 cases c
 ·exact⟨λh=>.inr ⟨rfl,h⟩,λh=>by rcases h with⟨h,_⟩ | ⟨_,h⟩;cases h;exact h⟩
 ·exact⟨λh=>.inl ⟨rfl,h⟩,λh=>by rcases h with⟨_,h⟩ | ⟨h,_⟩;exact h;cases h⟩
theorem bD:(cR W).H a↔W=some a:=by
 cases W with
 | none=>exact⟨λh=>h.elim,λh=>nomatch h⟩
 | some b=>exact⟨λh=>ZaR some (aq.1 h),λh=>by cases h;rfl⟩
theorem cY:(ask c X).H b↔c/\X.H b:=ZbW
theorem gj {K:α->Prop} (h:x.wp K):∃a,x.H a/\K a:=by
 induction x with
 | ret a=>exact⟨a,rfl,h⟩
 | fail=>exact h.elim
 | ff p x g=>obtain⟨f,h⟩:=h;obtain⟨a,h1,b⟩:=g h;exact⟨a,⟨f,h1⟩,b⟩
 | want c x g=>obtain⟨f,h⟩:=h;obtain⟨a,h1,b⟩:=g h;exact⟨a,⟨f,h1⟩,b⟩
 | split c x y i j=>
  obtain⟨h1,b⟩:=h;cases k:c with
  | true=>obtain⟨a,d,e⟩:=i (h1 k);exact⟨a,.inl ⟨rfl,d⟩,e⟩
  | false=>obtain⟨a,d,e⟩:=j (b k);exact⟨a,.inr ⟨rfl,d⟩,e⟩
theorem QgL {b:α} (d:x.H a) (e:x.H b):a=b:=by
 induction x with
 | ret c=>exact(aq.1 d).symm.trans (aq.1 e)
 | fail=>exact d.elim
 | ff p x h=>exact h d.2 e.2
 | want c x h=>exact h d.2 e.2
 | split c x y i j=>
  rcases d with⟨h1,f⟩ | ⟨h1,f⟩<;>rcases e with⟨k,g⟩ | ⟨k,g⟩
  ·exact i f g
  ·grind
  ·grind
  ·exact j f g
theorem QbF (h:(knw x).H a):x.H a:=by
 induction x with
 | ret c=>exact h
 | fail=>exact h
 | ff p x d=>exact⟨h.1,d h.2⟩
 | want c x d=>
  obtain⟨h1,b⟩:=bA.1 (show(bB c (knw x)).H a from h);exact⟨h1,d b⟩
 | split c x y e f=>
  rcases gY.1 (show(bE c (knw x) (knw y)).H a from h) with⟨h1,b⟩ | ⟨h1,b⟩
  ·exact .inl ⟨h1,e b⟩
  ·exact .inr ⟨h1,f b⟩
theorem aN:Nat.beq Z Y↔Z=Y:=⟨ZdO,λh=>h▸ZdY Z⟩
theorem cw:Nat.ble Z Y↔Z<=Y:=Nat.ble_eq▸ZbW
theorem rM:Nat.beq Z Y=false↔Z≠Y:=by
 grind [aN]
theorem DA:Nat.ble Z Y=false↔Y<Z:=by
 grind [cw]
end
section
variable {α:Type}
theorem T.get_nil (k:Nat):(T.nil:T α).get k=none:=rfl
def T.ml (v:Option α) (l r:T α):(T.node v l r).get 0=v:=rfl
theorem T.oU (v:Option α) (l r:T α) (k:Nat) (h:k % 2=0):(T.node v l r).get (k+1)=l.get (k / 2):=by
 show Nat.rec (motive:=λ_=>Option α) (l.get (k / 2)) (λ_ _=>r.get (k / 2)) (k % 2)=_
 rw[h];rfl
theorem T.rN (v:Option α) (l r:T α) (k:Nat) (h:k % 2=1):(T.node v l r).get (k+1)=r.get (k / 2):=by
 show Nat.rec (motive:=λ_=>Option α) (l.get (k / 2)) (λ_ _=>r.get (k / 2)) (k % 2)=_
 rw[h];rfl
theorem T.wO:∀(n k:Nat) (a:Option α) (t:T α),T.mk1 n k a=some t->∀j,t.get j=if j=k then a else none
 | 0,k,a,t,h,j=>nomatch h
 | n+1,0,a,t,h,j=>by
  have b:some (T.node a .nil .nil)=some t:=h;cases b;cases j with
  | zero=>simp[T.ml]
  | succ j=>
   grind [T.oU,T.get_nil,T.rN]
 | n+1,k+1,a,t,h,j=>by
  have b:Nat.rec (motive:=λ_=>Option (T α)) (oB (T.mk1 n (k / 2) a) λl=>some (.node none l .nil)) (λ_ _=>oB (T.mk1 n (k / 2) a) λr=>some (.node none .nil r)) (k % 2)=some t:=h;rcases Zbq k with e | e
  ·rw[e] at b;obtain⟨l,hl,ht⟩:=aE.1 b;cases ht;have c:=T.wO n _ _ _ hl;cases j with
   | zero=>simp[T.ml]
   | succ j=>
    grind [T.oU,T.rN,T.get_nil]
  ·rw[e] at b;obtain⟨l,hl,ht⟩:=aE.1 b;cases ht;have c:=T.wO n _ _ _ hl;cases j with
   | zero=>simp[T.ml]
   | succ j=>
    grind [T.oU,T.get_nil,T.rN]
theorem T.ea:∀(t:T α) (k:Nat) (a:Option α) (b:T α),t.put k a=some b->∀j,b.get j=if j=k then a else t.get j
 | .nil,k,a,b,h,j=>by rw[T.wO 64 k a b h j,T.get_nil]
 | .node v l r,0,a,b,h,j=>by
  have c:some (T.node a l r)=some b:=h;cases c;cases j with
  | zero=>simp[T.ml]
  | succ j=>
   rfl
 | .node v l r,k+1,a,b,h,j=>by
  have c:Nat.rec (motive:=λ_=>Option (T α)) (oB (l.put (k / 2) a) λd=>some (.node v d r)) (λ_ _=>oB (r.put (k / 2) a) λg=>some (.node v l g)) (k % 2)=some b:=h;rcases Zbq k with e | e
  ·rw[e] at c;obtain⟨d,hl,ht⟩:=aE.1 c;cases ht;have f:=T.ea l _ _ _ hl;cases j with
   | zero=>simp[T.ml]
   | succ j=>
    grind [T.oU,T.rN]
  ·rw[e] at c;obtain⟨d,hl,ht⟩:=aE.1 c;cases ht;have f:=T.ea r _ _ _ hl;cases j with
   | zero=>simp[T.ml]
   | succ j=>
    grind [T.oU,T.rN]
end
section
variable {α:Type}
theorem ia (l:List α):kb l=l.length:=by
 induction l with
 | nil=>rfl
 | cons a l b=>show Nat.succ (kb l)=_;rw[b];rfl
theorem fc:∀(l:List α) (n:Nat),gT l n=l[n]?
 | [],n=>by rfl
 | a::l,0=>rfl
 | a::l,n+1=>by show gT l n=_;rw[fc l n];simp
theorem fC:∀(x y:List α),nz x y=x++y
 | [],y=>rfl
 | a::x,y=>by show a::nz x y=_;rw[fC x y];rfl
theorem pS {β:Type} (f:α->β):∀l:List α,s8 f l=l.map f
 | []=>rfl
 | a::l=>by show f a::s8 f l=_;rw[pS f l];rfl
theorem mm:∀(n:Nat) (l:List α),om n l=l.drop n
 | 0,l=>rfl
 | n+1,[]=>by rfl
 | n+1,a::l=>by show om n l=_;rw[mm n l];rfl
theorem jc:∀{n:Nat} {l r:List α},ug n l=some r->n<=l.length/\r=l.take n
 | 0,l,r,h=>by cases(show some []=some r from h);simp
 | n+1,[],r,h=>nomatch (show none=some r from h)
 | n+1,a::l,r,h=>by
  obtain⟨z,hz,b⟩:=aE.1 (show oB (ug n l) (λz=>some (a::z))=some r from h);cases b;obtain⟨h1,c⟩:=jc hz;grind
theorem ec {f:α->Bool}:∀{l:List α},jy f l↔∀x∈l,f x
 | []=>by simp[jy]
 | a::l=>by
  show Bool.rec (motive:=λ_=>Bool) false (jy f l) (f a)↔_
  have:=ec (f:=f) (l:=l);cases h:f a<;>simp[h,this]
theorem wP:∀{a cs r:List α},JG a cs=some r->a.length<=cs.length/\r.length=cs.length/\∀i,r[i]?=if i<a.length then a[i]? else cs[i]?
 | [],cs,r,h=>by cases(show some cs=some r from h);simp
 | v::a,[],r,h=>nomatch (show none=some r from h)
 | v::a,c::cs,r,h=>by
  obtain⟨z,hz,b⟩:=aE.1 (show oB (JG a cs) (λz=>some (v::z))=some r from h);cases b;obtain⟨h1,d,e⟩:=wP hz;grind
theorem jd:∀{n:Nat} {a cs r:List α},Dl n a cs=some r->n+a.length<=cs.length/\r.length=cs.length/\∀i,r[i]?=if n<=i/\i<n+a.length then a[i-n]? else cs[i]?
 | 0,a,cs,r,h=>by
  obtain⟨h1,b,d⟩:=wP (show JG a cs=some r from h);grind
 | n+1,a,[],r,h=>nomatch (show none=some r from h)
 | n+1,a,c::cs,r,h=>by
  obtain⟨z,hz,e⟩:=aE.1 (show oB (Dl n a cs) (λz=>some (c::z))=some r from h);cases e;obtain⟨h1,b,d⟩:=jd hz;grind
def Ac (n:Nat) (z:List α):MG (n+1) z=z++MG n z:=fC _ _
end
theorem l8 {a b:Bool} (h:Bool.and a b):a/\b:=by grind
theorem or2 {a b:Bool} (h:Bool.or a b):a\/b:=by grind
structure MI where
 bY:Nat
 sh:Nat
 qK:Nat
 je:Nat
 len:Nat
 real:Bool
structure Pm (D:Data) where
 pl:Nat->Option MI
 sg:Nat->Nat->Option (AV D.E)
def cz {D:Data} (M:Pm D) (b o c:Nat) (xs:List (D.E c)):Prop:=∀(i:Nat) (hi:i<xs.length) (j:Nat) (v:AV D.E),(D.a_ c xs[i])[j]?=some v->M.sg b (o+i*D.size c+j)=some v
inductive VR {D:Data} (M:Pm D):AV D.E->Value->Prop
 | bool (b:Bool):VR M (.bool b) (.bool b)
 | lit (b:Bool):VR M (.lit b) (.bool b)
 | int {k:IntKind} {n:Int} (h:fK k n=true):VR M (.int k n) (.int k n)
 | num {k:IntKind} {n:Int} (h:fK k n=true):VR M (.num k n) (.int k n)
 | str {s:List UInt8} (h:s.length<=9223372036854775807):VR M (.str s) (.string ⟨⟨s⟩⟩)
 | fT:VR M .fT (.pointer none)
 | ptr {b o:Nat} {mi:MI} (h:M.pl b=some mi) (hr:mi.real=true):VR M (.ptr b o) (.pointer (some ⟨mi.bY,mi.sh+o,none⟩))
 | kA (g o:Nat):VR M (.kA g o) (.pointer (some ⟨g,o,none⟩))
 | mg {b k i j:Nat} {mi:MI} (h:M.pl b=some mi) (hr:mi.real=true) (hk:mi.je=k) (hi:i<mi.len):VR M (.mg b k i j) (.pointer (some ⟨mi.bY,mi.sh+i*k+j,none⟩))
 | nA {c:Nat} {x:D.E c} {b o j:Nat} (h:∀(i:Nat) (v:AV D.E),(D.a_ c x)[i]?=some v->M.sg b (o+i)=some v):VR M (.nA c x j) (.pointer (some ⟨b,o+j,none⟩))
 | dF:VR M .dF (.slice none 0 0)
 | own {b k cap:Nat} {n:Int} {mi:MI} (h:M.pl b=some mi) (hk:mi.je=k) (hr:mi.real=true) (hn:n=mi.len) (hm:mi.len<=9223372036854775807) (hc:mi.len<=cap) (ht:mi.sh+cap*mi.je=mi.qK):VR M (.own b k n) (.slice (some ⟨mi.bY,mi.sh,none⟩) mi.len cap)
 | kD {b k:Nat} {n:Int} {mi:MI} (h:M.pl b=some mi) (hk:mi.je=k) (hr:mi.real=false) (hn:n=0) (hl:mi.len=0):VR M (.own b k n) (.slice none 0 0)
 | pre {b k l cap:Nat} {n:Int} {mi:MI} (h:M.pl b=some mi) (hk:mi.je=k) (hr:mi.real=true) (hn:n=l) (hm:mi.len<=9223372036854775807) (hl:l<=mi.len) (hc:mi.len<=cap) (ht:mi.sh+cap*mi.je=mi.qK):VR M (.pre b k n) (.slice (some ⟨mi.bY,mi.sh,none⟩) l cap)
 | oV {b k:Nat} {n:Int} {mi:MI} (h:M.pl b=some mi) (hk:mi.je=k) (hr:mi.real=false) (hn:n=0) (hl:mi.len=0):VR M (.pre b k n) (.slice none 0 0)
 | part {b k l cap:Nat} {o n:Int} {mi:MI} (h:M.pl b=some mi) (hk:mi.je=k) (hr:mi.real=true) (hn:n=l) (ho:0<=o) (hl:o.toNat+l<=mi.len) (hm:mi.len<=9223372036854775807) (hc:l<=cap):VR M (.part b k o n) (.slice (some ⟨mi.bY,mi.sh+o.toNat*mi.je,none⟩) l cap)
 | jz {b k c:Nat} {o n:Int} {mi:MI} {a:Option Addr} (h:M.pl b=some mi) (hk:mi.je=k) (hn:n=0) (ho:0<=o):VR M (.part b k o n) (.slice a 0 c)
 | grow {c b cap:Nat} {xs:List (D.E c)} {mi:MI} (h:M.pl b=some mi) (hr:mi.real=true) (hl:mi.len=xs.length) (hz:mi.je=D.size c) (hs:cz M mi.bY mi.sh c xs) (hm:xs.length<=9223372036854775807) (hc:xs.length<=cap) (ht:mi.sh+cap*mi.je=mi.qK):
   VR M (.grow c xs b) (.slice (some ⟨mi.bY,mi.sh,none⟩) xs.length cap)
 | jZ {c b:Nat} {mi:MI} (h:M.pl b=some mi) (hr:mi.real=false):VR M (.grow c [] b) (.slice none 0 0)
 | sub {b o n cap:Nat} {mi:MI} (h:M.pl b=some mi) (hr:mi.real=true) (hc:n<=cap) (hm:n<=9223372036854775807):VR M (.sub b o n) (.slice (some ⟨mi.bY,mi.sh+o,none⟩) n cap)
 | oW {b o cap:Nat} {a:Addr}:VR M (.sub b o 0) (.slice (some a) 0 cap)
 | list {c b o cap:Nat} {xs:List (D.E c)} (hs:cz M b o c xs) (hm:xs.length<=9223372036854775807) (hc:xs.length<=cap):VR M (.list c xs) (.slice (some ⟨b,o,none⟩) xs.length cap)
 | ed {c cap:Nat} {a:Option Addr}:VR M (.list c []) (.slice a 0 cap)
 | qB:VR M .qB (.map none)
 | map {r:Nat} {mi:MI} (h:M.pl r=some mi):VR M (.map r) (.map (some mi.bY))
 | nilFunc:VR M .nilFunc .nilFunc
 | nilIface:VR M .nilIface .nilIface
 | iface (t:TypeId) {v:AV D.E} {v':Value} (h:VR M v v'):VR M (.iface t v) (.iface t v')
 | agg {c:List (AV D.E)} {c':Array Value} (hl:c.length=c'.toList.length) (h:∀(i:Nat) (v:AV D.E) (v':Value),c[i]?=some v->c'.toList[i]?=some v'->VR M v v'):VR M (.agg c) (.agg c')
 | tuple {c:List (AV D.E)} {c':Array Value} (hl:c.length=c'.toList.length) (h:∀(i:Nat) (v:AV D.E) (v':Value),c[i]?=some v->c'.toList[i]?=some v'->VR M v v'):VR M (.tuple c) (.tuple c')
 | func (fn:Fn) {f c:List (AV D.E)} {f' c':Array Value} (hl:f.length=f'.toList.length) (h:∀(i:Nat) (v:AV D.E) (v':Value),f[i]?=some v->f'.toList[i]?=some v'->VR M v v')
   (hl2:c.length=c'.toList.length) (h2:∀(i:Nat) (v:AV D.E) (v':Value),c[i]?=some v->c'.toList[i]?=some v'->VR M v v'):VR M (.func fn f c) (.func fn f' c')
section
variable {D:Data} {M M':Pm D}
variable {c:List Value} {l:List (AV D.E)} {v:AV D.E} {p:Value}
variable {b:List Value}
def LR (M:Pm D) (l:List (AV D.E)) (a:List Value):Prop:=l.length=a.length/\∀(i:Nat) (v:AV D.E) (b:Value),l[i]?=some v->a[i]?=some b->VR M v b
def zq (M a:Pm D):Prop:=∀b o v,M.sg b o=some v->a.sg b o=some v
def Le (M a:Pm D):Prop:=(∀b c,M.pl b=some c->a.pl b=some c)/\zq M a
theorem Le.refl (M:Pm D):Le M M:=⟨λ_ _ h=>h,λ_ _ _ h=>h⟩
def cz.mono (a:zq M M') {b o c:Nat} {xs:List (D.E c)} (h:cz M b o c xs):cz M' b o c xs:=λi hi j v e=>a _ _ _ (h i hi j v e)
theorem VR.mono (c:Le M M') (h:VR M v p):VR M' v p:=by
 induction h with
 | bool b=>exact .bool b
 | lit b=>exact .lit b
 | int h=>exact .int h
 | num h=>exact .num h
 | str h=>exact .str h
 | fT=>exact .fT
 | ptr h a=>exact .ptr (c.1 _ _ h) a
 | kA g o=>exact .kA g o
 | mg h a hk hi=>exact .mg (c.1 _ _ h) a hk hi
 | nA h=>exact .nA λi v e=>c.2 _ _ _ (h i v e)
 | dF=>exact .dF
 | own h hk a j f d ht=>exact .own (c.1 _ _ h) hk a j f d ht
 | kD h hk a j hl=>exact .kD (c.1 _ _ h) hk a j hl
 | pre h hk a j f hl d ht=>exact .pre (c.1 _ _ h) hk a j f hl d ht
 | oV h hk a j hl=>exact .oV (c.1 _ _ h) hk a j hl
 | part h hk a j m hl f d=>exact .part (c.1 _ _ h) hk a j m hl f d
 | jz h hk j m=>exact .jz (c.1 _ _ h) hk j m
 | grow h a hl hz hs f d ht=>exact .grow (c.1 _ _ h) a hl hz (hs.mono c.2) f d ht
 | jZ h a=>exact .jZ (c.1 _ _ h) a
 | sub h a d f=>exact .sub (c.1 _ _ h) a d f
 | oW=>exact .oW
 | list hs f d=>exact .list (hs.mono c.2) f d
 | ed=>exact .ed
 | qB=>exact .qB
 | map h=>exact .map (c.1 _ _ h)
 | nilFunc=>exact .nilFunc
 | nilIface=>exact .nilIface
 | iface t _ k=>exact .iface t k
 | agg hl _ k=>exact .agg hl k
 | tuple hl _ k=>exact .tuple hl k
 | func fn hl _ l _ k n=>exact .func fn hl k l n
def LR.mono (d:Le M M') (h:LR M l c):LR M' l c:=⟨h.1,λi v e a b=>(h.2 i v e a b).mono d⟩
theorem LR.nil:LR M [] []:=⟨rfl,λi v a h=>by simp at h⟩
def LR.cons (h:VR M v p) (hl:LR M l c):LR M (v::l) (p::c):=
 ⟨by simp[hl.1],λi u e a b=>by
  cases i with
  | zero=>simp at a b;subst a;subst b;exact h
  | succ i=>exact hl.2 i u e (by simpa using a) (by assumption)⟩
theorem LR.aM (h:LR M (v::l) c):∃d r,c=d::r/\VR M v d/\LR M l r:=by
 have⟨hl,e⟩:=h;cases c with
 | nil=>simp at hl
 | cons d r=>exact⟨d,r,rfl,e 0 v d rfl rfl,by grind,λi u f a b=>e (i+1) u f (by simpa using a) (by simpa using b)⟩
def LR.jA (h:LR M [] c):c=[]:=Zap h.1.symm
def LR.get (h:LR M l c) {i:Nat} (b:l[i]?=some v):∃a,c[i]?=some a/\VR M v a:=by
 have hi:i<c.length:=by rw[<-h.1];exact(Zam.1 b).1
 exact⟨_,Zaf hi,h.2 i v _ b (Zaf hi)⟩
def LR.app {f:List (AV D.E)} (h:LR M l c) (k:LR M f b):LR M (l++f) (c++b):=by
 refine⟨by simp[h.1,k.1],λi v g e d=>?_⟩;by_cases hi:i<l.length
 ·rw[Zat hi] at e;rw[Zat (by rw[<-h.1];exact hi)] at d;exact h.2 i v g e d
 ·rw[Zaz ω] at e;rw[Zaz (by rw[<-h.1];omega),<-h.1] at d;exact k.2 _ v g e d
theorem LR.drop (h:LR M l b) (n:Nat):LR M (l.drop n) (b.drop n):=
 ⟨by simp[h.1],λi v c e d=>h.2 (n+i) v c (by grind) (by grind)⟩
def LR.take (h:LR M l c) (n:Nat):LR M (l.take n) (c.take n):=
 ⟨by simp[h.1],λi v d e b=>by
  rw[Za7] at e b;split at e
  ·rename_i hi;rw[Zac hi] at b;exact h.2 i v d e b
  ·cases e⟩
def VR.DB (h:LR M l c):VR M (.agg l) (.agg ⟨c⟩):=.agg h.1 h.2
def VR.DC (h:LR M l c):VR M (.tuple l) (.tuple ⟨c⟩):=.tuple h.1 h.2
def VR.undef:VR M (sx.undef:AV D.E) Go.undef:=.tuple rfl (λi v a h=>by cases h)
theorem fg (h:VR M v p):LR M (dh v) p.cells.toList:=by
 have hs:∀(u:AV D.E) (a:Value),VR M u a->LR M [u] [a]:=λu a k=>.cons k .nil
 cases h
 case agg hl h=>exact⟨hl,h⟩
 all_goals (exact hs _ _ (by constructor<;>assumption))
def QdR (h:VR M v p) (h1:one v):p.oneCell':=by
 cases h<;>first | rfl | cases h1
theorem tg (h:LR M l c) (h1:jy one l):∀v∈c,v.oneCell':=by
 intro d b;have⟨i,hi⟩:=List.mem_iff_getElem?.1 b;have a:i<l.length:=by rw[h.1];exact(Zam.1 hi).1
 exact QdR (h.2 i _ d (Zaf a) hi) (ec.1 h1 _ (Zas a))
def mq (v:AV D.E):Bool:=match v with
 | .bool _=>true | .lit _=>true | .int _ _=>true | .num _ _=>true | .str _=>true | .fT=>true | .kA _ _=>true | .nA _ _ _=>true | .dF=>true | .list _ _=>true | .qB=>true | .nilFunc=>true | .nilIface=>true
 | .func _ f c=>f.isEmpty&&c.isEmpty
 | _=>false
theorem VR.pure {v':Value} (h:VR M v v') (d:mq v) (j:zq M M'):VR M' v v':=by
 cases h<;>first | (cases d;done) | skip
 case bool b=>exact .bool b
 case lit b=>exact .lit b
 case int h=>exact .int h
 case num h=>exact .num h
 case str h=>exact .str h
 case fT=>exact .fT
 case kA g o=>exact .kA g o
 case nA h=>exact .nA λi v e=>j _ _ _ (h i v e)
 case dF=>exact .dF
 case list hs l k=>exact .list (hs.mono j) l k
 case ed=>exact .ed
 case qB=>exact .qB
 case nilFunc=>exact .nilFunc
 case nilIface=>exact .nilIface
 case func fn f c n m hl h a p=>
  simp only[mq,ZaW,List.isEmpty_iff] at d;obtain⟨rfl,rfl⟩:=d;exact .func fn hl (λi v v' e=>by simp at e) a (λi v v' e=>by simp at e)
end
structure aY (D:Data):Prop where
 len:∀c x,(D.a_ c x).length=D.size c
 one:∀c x,∀v∈D.a_ c x,one v=true/\mq v=true
 dec:∀c row x,D.dec c row=some x->row.length=D.size c/\∀(j:Nat) (a a':AV D.E),row[j]?=some a->(D.a_ c x)[j]?=some a'->∀(M:Pm D) (v:Value),VR M a v->VR M a' v
 b1:D.size D.bc=1
 bl:∀xs,(D.zf xs).length=xs.length
 be:∀(xs:List (D.E D.bc)) (i:Nat) (h:i<xs.length),D.a_ D.bc xs[i]=[.int .u8 ((D.zf xs)[i]'(by rw[bl];exact h)).toNat]
 bo:∀l,D.zf (D.ofB l)=l
section
variable {D:Data}
variable {M:Pm D} {c:MI} {w:World} {o:AO D.E}
def aV (c:Nat) (xs:List (D.E c)):List (AV D.E):=xs.flatMap (D.a_ c)
def O' (M:Pm D) (a:MI) (w:World) (cs:List (AV D.E)) (e:TypeId) (ro:Bool):Prop:=∃C b,w.heap[a.bY]?=some (.cells C e b)/\C.size=a.qK/\a.sh+cs.length<=a.qK/\
 (∀(i:Nat) (v:AV D.E),cs[i]?=some v->∃c,C[a.sh+i]?=some c/\VR M v c)/\(ro=false->b.1=b.2\/a.qK<=b.1/\a.je=1)
def OR (M:Pm D) (o:AO D.E) (a:MI) (w:World):Prop:=match o with
 | .cells cs e ro=>(a.real/\a.sh=0/\a.qK=cs.length)/\O' M a w cs e ro
 | .arr c xs e ro=>a.len=xs.length/\a.je=D.size c/\(a.real->O' M a w (aV c xs) e ro)
 | .tok c e=>a.je=D.size c/\(a.real->∃C b,w.heap[a.bY]?=some (.cells C e b)/\C.size=a.qK/\a.sh+a.len*a.je<=a.qK/\(b.1=b.2\/a.qK<=b.1/\a.je=1))
def AO.wr {E:Nat->Type} (o:AO E):Bool:=match o with
 | .cells _ _ ro=>!ro
 | .arr _ _ _ ro=>!ro
 | .tok _ _=>true
def AO.ti {E:Nat->Type} (o:AO E) (a:MI) (j:Nat):Prop:=match o with
 | .tok _ _=>a.sh+a.len*a.je<=j
 | _=>True
def O'.mono {d:Pm D} (n:Le M d) {cs:List (AV D.E)} {e:TypeId} {ro:Bool} {f:World} (hw:f.heap[c.bY]?=w.heap[c.bY]?) (h:O' M c w cs e ro):O' d c f cs e ro:=by
 have⟨C,g,h1,j,k,l,m⟩:=h;exact⟨C,g,hw.trans h1,j,k,λi v e=>let ⟨o,a,b⟩:=l i v e;⟨o,a,b.mono n⟩,m⟩
theorem OR.mono {d:Pm D} (f:Le M d) {g:World} (hw:c.real->g.heap[c.bY]?=w.heap[c.bY]?) (h:OR M o c w):OR d o c g:=by
 cases o with
 | cells cs e ro=>exact⟨h.1,h.2.mono f (hw h.1.1)⟩
 | arr b xs e ro=>exact⟨h.1,h.2.1,λa=>(h.2.2 a).mono f (hw a)⟩
 | tok b e=>exact⟨h.1,λa=>let ⟨C,i,h1,j⟩:=h.2 a;⟨C,i,(hw a).trans h1,j⟩⟩
theorem OR.lt (h:OR M o c w) (d:c.real):c.bY<w.heap.size:=by
 have:∃x,w.heap[c.bY]?=some x:=by
  cases o with
  | cells cs e ro=>have⟨_,C,b,h1,_⟩:=h;exact⟨_,h1⟩
  | arr a xs e ro=>have⟨C,b,h1,_⟩:=h.2.2 d;exact⟨_,h1⟩
  | tok a e=>have⟨C,b,h1,_⟩:=h.2 d;exact⟨_,h1⟩
 grind
abbrev Hp (D:Data):=Nat->Option (AO D.E)
structure ee (M:Pm D) (H:Hp D) (w:World):Prop where
 obj:∀b o,H b=some o->∃mi,M.pl b=some mi/\OR M o mi w
 inj:∀b b' o o' mi O_,H b=some o->H b'=some o'->M.pl b=some mi->M.pl b'=some O_->mi.real=true->O_.real=true->mi.bY=O_.bY->b=b'
 gR:∀b o v,M.sg b o=some v->mq v=true/\∃v',w.cell? ⟨b,o,none⟩=some v'/\VR M v v'
 sep:∀b o mi,H b=some o->o.wr=true->M.pl b=some mi->mi.real=true->∀j,o.ti mi j->M.sg mi.bY j=none
 J6:∀b c xs e mi,H b=some (.arr c xs e true)->M.pl b=some mi->mi.real=true->cz M mi.bY mi.sh c xs
 mh:(D.ng<=w.heap.size/\D.gw w)/\∀b o mi,H b=some o->o.wr=true->M.pl b=some mi->mi.real=true->D.ng<=mi.bY
def bV (M:Pm D) (lo hi:Nat):Prop:=∀b,lo<=b->b<hi->M.pl b=none
def MM (H:Hp D) (M:Pm D) (c:Nat):Prop:=∃b o a,H b=some o/\o.wr/\M.pl b=some a/\a.real/\a.bY=c
structure cU (H:Hp D) (M:Pm D) (w:World) (H':Hp D) (M':Pm D) (w':World) (lo hi:Nat):Prop where
 fJ:ee M' H' w'
 ext:∀b,¬(lo<=b/\b<hi)->M'.pl b=M.pl b
 J7:zq M M'
 lP:∀b o,M'.sg b o≠none->M.sg b o≠none\/w.heap.size<=b\/MM H M b
 size:w.heap.size<=w'.heap.size
 aO:∀c,c<w.heap.size->¬MM H M c->w'.heap[c]?=w.heap[c]?
 born:∀b o mi,H' b=some o->M'.pl b=some mi->mi.real=true->w.heap.size<=mi.bY\/∃b0 o0 rI,H b0=some o0/\M.pl b0=some rI/\rI.real=true/\rI.bY=mi.bY/\(o.wr=true->o0.wr=true)
 MN:∀b,H' b≠none->H b≠none\/(lo<=b/\b<hi)
 os:w'.os=w.os
 tape:w'.tape=w.tape
 output:w'.output=w.output
 le:lo<=hi
section
variable {H H' H'':Hp D} {M M' M'':Pm D} {w w' w'':World} {lo mid hi:Nat}
variable {b o:Nat}
def cU.Le (h:cU H M w H' M' w' lo hi) (d:bV M lo hi):sx.Le M M':=⟨λb e a=>by
 rw[h.ext b (λc=>by rw[d b c.1 c.2] at a;cases a)];exact a,h.J7⟩
theorem cU.refl (h:ee M H w) (lo:Nat):cU H M w H M w lo lo:=
 ⟨h,λ_ _=>rfl,λ_ _ _ h=>h,λ_ _ h=>.inl h,Zah _,λ_ _ _=>rfl,λb o e a c d=>.inr ⟨b,o,e,a,c,d,rfl,id⟩,λf a=>.inl a,rfl,rfl,rfl,Zah _⟩
def cU.wrt (h:cU H M w H' M' w' lo hi) (j:MM H' M' b):w.heap.size<=b\/MM H M b:=by
 obtain⟨c,o,p,i,m,l,n,rfl⟩:=j;rcases h.born c o p i l n with hs | ⟨g,q,f,a,d,e,k,hw⟩
 ·omega
 ·exact .inr ⟨g,q,f,a,hw m,d,e,k⟩
theorem cU.trans (h:cU H M w H' M' w' lo mid) (k:cU H' M' w' H'' M'' w'' mid hi):cU H M w H'' M'' w'' lo hi:=by
 have h1:=h.le;have m:=k.le;refine⟨k.fJ,λb d=>?_,λb o v e=>k.J7 _ _ _ (h.J7 _ _ _ e),λb o d=>?_,Zav h.size k.size,λc l s=>?_,λb o y d q t=>?_,λb d=>?_,k.os.trans h.os,k.tape.trans h.tape,k.output.trans h.output,Zav h1 m⟩
 ·rw[k.ext b ω,h.ext b ω]
 ·rcases k.lP b o d with a | a | a
  ·exact h.lP b o a
  ·exact .inr (.inl (Zav h.size a))
  ·exact .inr (h.wrt a)
 ·rw[k.aO c (ZbB l h.size) λhw=>?_,h.aO c l s];rcases h.wrt hw with a | a
  ·omega
  ·grind
 ·rcases k.born b o y d q t with hs | ⟨b1,A,j,lG,g,i,p,x⟩
  ·exact .inl (Zav h.size hs)
  ·rcases h.born b1 A j lG g i with hs | ⟨B,D,z,n,r,u,C,hw⟩
   ·omega
   ·grind
 ·rcases k.MN b d with lG | lG
  ·rcases h.MN b lG with f | f
   ·grind
   ·omega
  ·omega
theorem cU.frame {K z:Hp D} (h:cU K M w z M' w' lo hi) (r:ee M H w) (Z:bV M lo hi) (O:∀b o,K b=some o->H b=some o) (N:∀b,H' b=if K b=none/\z b=none then H b else z b):
  cU H M w H' M' w' lo hi:=by
 have k:=h.Le Z;have P:∀b o,H b=some o->∃a,M.pl b=some a:=λb o d=>let ⟨a,g,_⟩:=r.obj b o d;⟨a,g⟩
 have Q:∀c,MM K M c->MM H M c:=λc ⟨b,o,a,d,Y⟩=>⟨b,o,a,O _ _ d,Y⟩
 have p:∀b o,H' b=some o->(z b=some o)\/(K b=none/\z b=none/\H b=some o):=by
  grind
 have S:∀b o a,H b=some o->K b=none->M.pl b=some a->a.real->¬MM K M a.bY:=by
  rintro b o a d hk g l ⟨n,u,i,s,_,m,q,e⟩;have:=r.inj n b u o i a (O _ _ s) d m g q l e;grind
 have hold:∀b o a,H b=some o->K b=none->M.pl b=some a->a.real->w'.heap[a.bY]?=w.heap[a.bY]?:=by
  intro b o a d hk g l;have⟨i,m,x⟩:=r.obj b o d;rw[g] at m;cases m;exact h.aO _ (x.lt l) (S b o a d hk g l)
 refine⟨⟨λb o d=>?_,λb n o u a i d s g m l q L=>?_,h.fJ.gR,λb o a d x g l j V=>?_,λb c xs e a d g l=>?_,h.fJ.mh.1,λb o a d x g l=>?_⟩,h.ext,h.J7,λb o d=>?_,h.size,λc R hn=>?_,λb o a d g l=>?_,λb d=>?_,h.os,h.tape,h.output,h.le⟩
 ·rcases p b o d with hk | ⟨hk,_,d⟩
  ·exact h.fJ.obj b o hk
  ·have⟨a,g,x⟩:=r.obj b o d;exact⟨a,k.1 _ _ g,x.mono k (hold b o a d hk g)⟩
 ·have W:∀b n o u a i,z b=some o->(K n=none/\z n=none/\H n=some u)->M'.pl b=some a->M'.pl n=some i->a.real->i.real->a.bY=i.bY->b=n:=by
   intro b n o u a i hk ⟨hk1,hk2,s⟩ g m l q L;have⟨t,f,A⟩:=r.obj n u s;have:=k.1 _ _ f;rw[m] at this;cases this;rcases h.born b o a hk g l with hs | ⟨T,X,J,C,F,I,E,_⟩
   ·have:=A.lt q;omega
   ·have e2:=r.inj T n X u J i (O _ _ C) s F f I q (E.trans L);grind
  rcases p b o d with hk | hk<;>rcases p n u s with y | y
  ·exact h.fJ.inj b n o u a i hk y g m l q L
  ·grind
  ·grind
  ·have⟨t,f,_⟩:=r.obj b o hk.2.2;have⟨mi3,G,_⟩:=r.obj n u y.2.2;have e2:=k.1 _ _ f;have U:=k.1 _ _ G;rw[g] at e2;rw[m] at U;cases e2;cases U;exact r.inj b n o u a i hk.2.2 y.2.2 f G l q L
 ·rcases p b o d with hk | ⟨hk,_,d⟩
  ·exact h.fJ.sep b o a hk x g l j V
  ·have⟨t,f,A⟩:=r.obj b o d;have e2:=k.1 _ _ f;rw[g] at e2;cases e2;cases hs:M'.sg a.bY j with
   | none=>rfl
   | some v=>
    exfalso;rcases h.lP a.bY j (by grind) with B | B | B
    ·exact B (r.sep b o a d x f l j V)
    ·have:=A.lt l;omega
    ·grind
 ·rcases p b _ d with hk | ⟨hk,_,d⟩
  ·exact h.fJ.J6 b c xs e a hk g l
  ·have⟨t,f⟩:=P b _ d;have e2:=k.1 _ _ f;rw[g] at e2;cases e2;exact(r.J6 b c xs e a d f l).mono k.2
 ·rcases p b o d with hk | ⟨hk,_,d⟩
  ·exact h.fJ.mh.2 b o a hk x g l
  ·have⟨t,f⟩:=P b o d;have e2:=k.1 _ _ f;rw[g] at e2;cases e2;exact r.mh.2 b o a d x f l
 ·rcases h.lP b o d with B | B | B
  ·grind
  ·omega
  ·grind
 ·exact h.aO c R λhw=>hn (Q _ hw)
 ·rcases p b o d with hk | ⟨hk,_,d⟩
  ·rcases h.born b o a hk g l with hs | ⟨T,X,J,C,F,I,E,hw⟩
   ·omega
   ·grind
  ·have⟨t,f⟩:=P b o d;have e2:=k.1 _ _ f;grind
 ·rw[N b] at d;by_cases R:K b=none/\z b=none
  ·grind
  ·rw[Zaa R] at d;rcases h.MN b d with hk | hk
   ·have⟨o,x⟩:=Zbs.1 hk;grind
   ·omega
theorem gk {w a:World} (h:a.heap[b]?=w.heap[b]?):a.cell? ⟨b,o,none⟩=w.cell? ⟨b,o,none⟩:=by
 grind [World.cell?]
theorem ee.slt (a:ee M H w) {v:AV D.E} (h:M.sg b o=some v):b<w.heap.size:=by
 have⟨_,d,c,_⟩:=a.gR b o v h;grind [World.cell?]
def cU.world (a:ee M H w) (h1:w.heap.size<=w'.heap.size) (g:∀c,c<w.heap.size->w'.heap[c]?=w.heap[c]?) (m:w'.os=w.os) (n:w'.tape=w.tape) (p:w'.output=w.output) (lo:Nat):cU H M w H M w' lo lo:=
 ⟨⟨λb o d=>let ⟨k,i,l⟩:=a.obj b o d;⟨k,i,l.mono (.refl M) λj=>g _ (l.lt j)⟩,a.inj,λb o v e=>let ⟨q,s,f,r⟩:=a.gR b o v e;⟨q,s,(gk (g _ (a.slt e))).trans f,r⟩,a.sep,a.J6,⟨Zav a.mh.1.1 h1,D.gst _ _ (λc f=>g c (ZbB f a.mh.1.1)) a.mh.1.2⟩,a.mh.2⟩,
  λ_ _=>rfl,λ_ _ _ h=>h,λ_ _ h=>.inl h,h1,λc f _=>g c f,λb o k d i j=>.inr ⟨b,o,k,d,i,j,rfl,id⟩,λt d=>.inl d,m,n,p,Zah _⟩
def cU.vP (a:ee M H w) (lo:Nat):cU H M w H M w.drew lo lo:=.world (w':=w.drew) a (Zah _) (λ_ _=>rfl) rfl rfl rfl lo
def ja (H:Hp D) (b:Nat) (o:Option (AO D.E)):Hp D:=λc=>if c=b then o else H c
def Pm.add (M:Pm D) (b:Nat) (mi:MI):Pm D:=⟨λc=>if c=b then some mi else M.pl c,M.sg⟩
def Pm.qU {mi:MI} (d:M.pl b=none):sx.Le M (M.add b mi):=⟨λc m a=>by
 show(if c=b then some mi else M.pl c)=some m
 by_cases e:c=b
 ·subst e;rw[d] at a;cases a
 ·rw[Zaa e];exact a,λ_ _ _ h=>h⟩
theorem cU.nB (a:ee M H w) (C:M.pl lo=none) (o:AO D.E) (mi:MI) (t:mi.real->mi.bY=w.heap.size) (di:w.heap.size<=w'.heap.size) (hblk:∀c,c<w.heap.size->w'.heap[c]?=w.heap[c]?)
  (x:w'.os=w.os) (y:w'.tape=w.tape) (z:w'.output=w.output) (I:OR (M.add lo mi) o mi w')
  (L:∀c xs e,o=.arr c xs e true->mi.real->cz (M.add lo mi) mi.bY mi.sh c xs:=by intro _ _ _ h;cases h):
  cU H M w (ja H lo (some o)) (M.add lo mi) w' lo (lo+1):=by
 have f:sx.Le M (M.add lo mi):=Pm.qU C;have k:∀m,(M.add lo mi).pl lo=some m->m=mi:=λm h=>by grind [Pm.add]
 have hold:∀b m,b≠lo->(M.add lo mi).pl b=some m->M.pl b=some m:=λb m e h=>by grind [Pm.add]
 refine⟨⟨λb i h=>?_,λb r O P m1 m2 h1 s u e2 Q R B=>?_,λb i v e=>?_,λb i m h hw e d j F=>?_,λb c xs e m h n d=>?_,⟨Zav a.mh.1.1 di,D.gst _ _ (λc l=>hblk c (ZbB l a.mh.1.1)) a.mh.1.2⟩,λb i m h hw e d=>?_⟩,λb A=>?_,f.2,λb i h=>.inl h,di,λc l _=>hblk c l,λb i m h e d=>?_,λb h=>?_,x,y,z,ZcR _⟩
 ·by_cases e:b=lo
  ·subst e;simp only[ja] at h;cases h;exact⟨mi,by simp[Pm.add],I⟩
  ·simp only[ja,Zaa e] at h;have⟨m,n,g⟩:=a.obj b i h;exact⟨m,f.1 _ _ n,g.mono f λd=>hblk _ (g.lt d)⟩
 ·have G:∀b o m,b≠lo->H b=some o->M.pl b=some m->m.real->mi.real->m.bY≠mi.bY:=λb o m e h n d K=>by
   have⟨T,p,g⟩:=a.obj b o h;rw[n] at p;cases p;have:=g.lt d;grind
  by_cases e:b=lo<;>by_cases q:r=lo
  ·rw[e,q]
  ·grind [ja]
  ·grind [ja]
  ·simp only[ja,Zaa e,Zaa q] at h1 s;exact a.inj b r O P m1 m2 h1 s (hold _ _ e u) (hold _ _ q e2) Q R B
 ·have⟨J,S,l,N⟩:=a.gR b i v e;exact⟨J,S,(gk (hblk _ (a.slt e))).trans l,N.mono f⟩
 ·by_cases e2:b=lo
  ·subst e2;have:=k _ e;subst this;cases hs:M.sg m.bY j with
   | none=>exact hs
   | some v=>have:=a.slt hs;have:=t d;omega
  ·simp only[ja,Zaa e2] at h;exact a.sep b i m h hw (hold _ _ e2 e) d j F
 ·by_cases e2:b=lo
  ·grind [ja]
  ·simp only[ja,Zaa e2] at h;exact(a.J6 b c xs e m h (hold _ _ e2 n) d).mono f.2
 ·by_cases e2:b=lo
  ·subst e2;have:=k _ e;subst this;rw[t d];exact a.mh.1.1
  ·simp only[ja,Zaa e2] at h;exact a.mh.2 b i m h hw (hold _ _ e2 e) d
 ·show(if b=lo then some mi else M.pl b)=M.pl b
  grind
 all_goals grind [ja]
theorem cU.alloc (b:ee M H w) (g:M.pl lo=none) (o:AO D.E) (ob:Obj) (mi:MI) (d:mi.bY=w.heap.size) (i:OR (M.add lo mi) o mi (w.alloc ob))
  (a:∀c xs e,o=.arr c xs e true->mi.real->cz (M.add lo mi) mi.bY mi.sh c xs:=by intro _ _ _ h;cases h):
  cU H M w (ja H lo (some o)) (M.add lo mi) (w.alloc ob) lo (lo+1):=
 cU.nB b g o mi (λ_=>d) (by simp) (λc f=>Below.heap_alloc _ _ _ f) rfl rfl rfl i a
theorem cU.upon {b0 b1:Nat} {o0 o1:AO D.E} {rI B3:MI} {M1:Pm D} {sg1:Nat->Nat->Option (AV D.E)} (i:ee M H w) (y:H b0=some o0) (t:o0.wr) (A:M.pl b0=some rI) (l:rI.real) (hr1:B3.real) (hblk:B3.bY=rI.bY)
  (r:M1=⟨λc=>if c=b1 then some B3 else M.pl c,sg1⟩)
  (Z:(b1=b0/\B3=rI/\hi=lo)\/(b1=lo/\M.pl lo=none/\hi=lo+1))
  (B:∀b o v,M.sg b o=some v->sg1 b o=some v) (k:∀b o,sg1 b o≠none->M.sg b o≠none\/b=rI.bY)
  (di:w'.heap.size=w.heap.size) (hk:∀c,c≠rI.bY->w'.heap[c]?=w.heap[c]?) (U:w'.os=w.os) (V:w'.tape=w.tape) (W:w'.output=w.output)
  (ho:OR M1 o1 B3 w') (hse:∀o v,sg1 rI.bY o=some v->mq v/\∃C,w'.cell? ⟨rI.bY,o,none⟩=some C/\VR M1 v C) (R:o1.wr->∀j,o1.ti B3 j->sg1 B3.bY j=none)
  (hro:∀c xs e,o1=.arr c xs e true->cz M1 B3.bY B3.sh c xs:=by intro _ _ _ h;cases h):
  cU H M w (λc=>if c=b1 then some o1 else if c=b0 then none else H c) M1 w' lo hi:=by
 have Q:b1≠b0->M.pl b1=none:=λe=>by
  grind
 have g:sx.Le M M1:=by
  subst r;refine⟨λc m z=>?_,B⟩;grind
 have J:∀m,M1.pl b1=some m->m=B3:=λm h=>by simp_all
 have d:∀c m,c≠b1->M1.pl c=some m->M.pl c=some m:=λc m e h=>by subst r;simpa [e] using h
 have f:∀c a,c≠b1->(if c=b1 then some o1 else if c=b0 then none else H c)=some a->H c=some a/\c≠b0:=λc a e h=>by
  grind
 have N:∀c a m,H c=some a->c≠b0->M.pl c=some m->m.real->m.bY≠rI.bY:=λc a m h e s p K=>e (i.inj c b0 a o0 m rI h y s A p l K)
 have n:M1.sg=sg1:=by grind
 refine⟨⟨λc a h=>?_,λc F p1 p2 m1 m2 h1 I S e2 r1 r2 K=>?_,λb o v e=>?_,λc a m h hw e p j X=>?_,λb c xs e m h L p=>?_,⟨by rw[di];exact i.mh.1.1,D.gst _ _ (λc z=>hk c (λq=>by have:=i.mh.2 b0 o0 rI y t A l;omega)) i.mh.1.2⟩,λc a m h hw e p=>?_⟩,λc z=>?_,g.2,λb o h=>?_,Zd1 di.symm,λc z Y=>hk c λe=>Y ⟨b0,o0,rI,y,t,A,l,e.symm⟩,λc a m h e p=>?_,λc h=>?_,U,V,W,?_⟩
 ·by_cases e:c=b1
  ·rw[Zac e] at h;cases h;exact⟨B3,by subst r;simp[e],ho⟩
  ·have⟨h1,I⟩:=f c a e h;have⟨m,s,O⟩:=i.obj c a h1;exact⟨m,g.1 _ _ s,O.mono g λp=>hk _ (N c a m h1 I s p)⟩
 ·by_cases e:c=b1<;>by_cases G:F=b1
  ·rw[e,G]
  ·grind
  ·grind
  ·have⟨q1,P⟩:=f c p1 e h1;have⟨q3,q4⟩:=f F p2 G I;exact i.inj c F p1 p2 m1 m2 q1 q3 (d _ _ e S) (d _ _ G e2) r1 r2 K
 ·rw[n] at e;by_cases T:b=rI.bY
  ·grind
  ·rcases k b o (by grind) with x | x
   ·have⟨u,hu⟩:=Zbs.1 x;have:=B _ _ _ hu;rw[e] at this;cases this;have⟨hp,C,z,hv⟩:=i.gR b o v hu;exact⟨hp,C,(gk (hk _ T)).trans z,hv.mono g⟩
   ·omega
 ·rw[n];by_cases e2:c=b1
  ·grind
  ·have⟨q1,P⟩:=f c a e2 h;cases hs:sg1 m.bY j with
   | none=>rfl
   | some v=>
    exfalso;rcases k m.bY j (by grind) with x | x
    ·exact x (i.sep c a m q1 hw (d _ _ e2 e) p j X)
    ·grind
 ·by_cases e2:b=b1
  ·grind
  ·have⟨q1,P⟩:=f b _ e2 h;exact(i.J6 b c xs e m q1 (d _ _ e2 L) p).mono g.2
 ·by_cases e2:c=b1
  ·subst e2;have:=J _ e;subst this;rw[hblk];exact i.mh.2 b0 o0 rI y t A l
  ·have⟨q1,P⟩:=f c a e2 h;exact i.mh.2 c a m q1 hw (d _ _ e2 e) p
 ·subst r;grind
 ·rw[n] at h;rcases k b o h with x | x
  ·grind
  ·exact .inr (.inr ⟨b0,o0,rI,y,t,A,l,x.symm⟩)
 ·grind
 ·grind
 ·omega
theorem cU.drop (g:ee M H w) (lo:Nat):cU H M w (ja H b none) M w lo lo:=by
 have d:∀a f,ja H b none a=some f->H a=some f:=λa f h=>by
  grind [ja]
 exact⟨⟨λa f h=>g.obj a f (d a f h),λa i n f m1 m2 h1 j=>g.inj a i n f m1 m2 (d _ _ h1) (d _ _ j),g.gR,λa f m h=>g.sep a f m (d _ _ h),λa c xs e m h=>g.J6 a c xs e m (d _ _ h),g.mh.1,λa f m h=>g.mh.2 a f m (d _ _ h)⟩,λ_ _=>rfl,λ_ _ _ h=>h,λ_ _ h=>.inl h,Zah _,λ_ _ _=>rfl,
  λa f m h e l=>.inr ⟨a,f,m,d _ _ h,e,l,rfl,id⟩,λa h=>.inl (by have⟨o,k⟩:=Zbs.1 h;rw[d _ _ k];simp),rfl,rfl,rfl,Zah _⟩
def ee.sub {K:Hp D} (h:ee M H w) (f:∀b o,K b=some o->H b=some o):ee M K w:=
 ⟨λb o a=>h.obj b o (f b o a),λb j o k d i a g=>h.inj b j o k d i (f _ _ a) (f _ _ g),h.gR,λb o d a=>h.sep b o d (f _ _ a),λb c xs e d a=>h.J6 b c xs e d (f _ _ a),h.mh.1,λb o d a=>h.mh.2 b o d (f _ _ a)⟩
end
end
variable {k:IntKind} {x:Int} {m:Nat}
theorem qV (x y:Int):XC x y=(x==y):=by
 cases x<;>cases y<;>rw[ZaG]<;>simp[XC,-Int.ofNat_eq_natCast]<;>try exact ZbW
theorem Gl (x y:Int):XR x y=decide (x<y):=by
 rw[ZaG,ZbP];cases x with
 | ofNat a=>cases y with
  | ofNat b=>show Nat.ble (a+1) b↔_;rw[cw];simp;omega
  | negSucc b=>simp[XR];omega
 | negSucc a=>cases y with
  | ofNat b=>simp[XR];omega
  | negSucc b=>show Nat.ble (b+1) a↔_;rw[cw];omega
theorem fZ {b:IntKind}:BI k b↔k=b:=by
 cases k<;>cases b<;>decide
theorem gn {v:CV}:F9 k x=some v↔v=.num k x:=by
 cases x with
 | ofNat m=>cases m with
  | zero=>exact⟨λh=>by cases(show some (CV.num k (.ofNat 0))=some v from h);rfl,λh=>by rw[h];rfl⟩
  | succ m=>exact⟨λh=>by cases(show some (CV.num k (.ofNat (m+1)))=some v from h);rfl,λh=>by rw[h];rfl⟩
 | negSucc m=>cases m with
  | zero=>exact⟨λh=>by cases(show some (CV.num k (.negSucc 0))=some v from h);rfl,λh=>by rw[h];rfl⟩
  | succ m=>exact⟨λh=>by cases(show some (CV.num k (.negSucc (m+1)))=some v from h);rfl,λh=>by rw[h];rfl⟩
theorem rO {v:CV}:mkN m=some v↔v=.num .i64 (m:Int):=by
 cases m with
 | zero=>exact⟨λh=>by cases(show some (CV.num .i64 (.ofNat 0))=some v from h);rfl,λh=>by rw[h];rfl⟩
 | succ n=>exact⟨λh=>by cases(show some (CV.num .i64 (.ofNat (n+1)))=some v from h);rfl,λh=>by rw[h];rfl⟩
theorem J8 (k:IntKind) (n:Int) (h1: -(kLo k:Int)<=n) (a:n<=(kHi k:Int)):k.wrap n=n:=by
 cases k<;>simp only[kLo,kHi] at h1 a
 ·grind [IntWalk.i8_in]
 ·grind [IntWalk.i16_in]
 ·grind [IntWalk.i32_in]
 ·grind [IntWalk.i64_in]
 ·grind [IntWalk.u8_in]
 ·grind [IntWalk.u16_in]
 ·grind [IntWalk.u32_in]
 ·grind [IntWalk.u64_in]
theorem jB (k:IntKind) (n:Int):rJ k n=k.wrap n:=by
 cases n with
 | ofNat m=>
  show Bool.rec (motive:=λ_=>Int) (k.wrap (.ofNat m)) (.ofNat m) (Nat.ble m (kHi k))=_
  cases h:Nat.ble m (kHi k)
  ·rfl
  ·grind [cw,J8]
 | negSucc m=>
  show Bool.rec (motive:=λ_=>Int) (k.wrap (.negSucc m)) (.negSucc m) (Nat.ble (m+1) (kLo k))=_
  cases h:Nat.ble (m+1) (kLo k)
  ·rfl
  ·grind [cw,J8]
def J9 (k:IntKind):uT k=2 ^ k.bits:=by cases k<;>rfl
theorem kE (k:IntKind) (n:Int):Dk k n=(BitVec.ofInt k.bits n).toNat:=by
 rw[BitVec.toNat_ofInt];cases n with
 | ofNat m=>
  show Nat.mod m (uT k)=_
  rw[J9];rfl
 | negSucc m=>
  show Nat.sub (Nat.sub (uT k) 1) (Nat.mod m (uT k))=_
  have a:0<2 ^ k.bits:=Nat.two_pow_pos _;have b:m % 2 ^ k.bits<2 ^ k.bits:=Zc4 _ a;rw[J9];show 2 ^ k.bits-1-m % 2 ^ k.bits=_
  have e:(Int.negSucc m) % ((2 ^ k.bits:Nat):Int)=((2 ^ k.bits-1-m % 2 ^ k.bits:Nat):Int):=by
   rw[Int.negSucc_emod _ ω];omega
  omega
theorem B4 (a b:Nat):Pp a b=min a b:=by
 show Bool.rec (motive:=λ_=>Nat) b a (Nat.ble a b)=_
 cases h:Nat.ble a b
 ·grind [DA]
 ·simp_all
def Pb (v:CV):Value:=match v with
 | .num k n=>.int k n
 | .lit b=>.bool b
theorem cL:fK k x↔De k<=x/\x<=s9 k:=by simp[fK,aG]
theorem cI (k:IntKind) (n:Int):fK k (k.wrap n):=by
 rw[cL];cases k<;>simp only[De,s9,IntKind.wrap,IntKind.bits,IntKind.signed]<;>simp<;>(try split)<;>omega
theorem dG (h:fK k x):k.wrap x=x:=by
 rw[cL] at h;cases k<;>simp only[De,s9] at h
 ·exact IntWalk.i8_in x h
 ·exact IntWalk.i16_in x h
 ·exact IntWalk.i32_in x h
 ·exact IntWalk.i64_in x h
 ·exact IntWalk.u8_in x h
 ·exact IntWalk.u16_in x h
 ·exact IntWalk.u32_in x h
 ·exact IntWalk.u64_in x h
theorem js (h:m<=9223372036854775807):fK .i64 (m:Int):=by grind [cL,De,s9]
def rP (b:UInt8):fK .u8 (b.toNat:Int):=by rw[cL];simp only[De,s9];have:=b.toNat_lt;omega
theorem DD {y:Int} (h:fK k x):fK k (Int.tmod x y):=by
 rw[cL] at*
 have h0:De k<=0/\0<=s9 k:=by cases k<;>simp[De,s9]
 rcases Int.le_total 0 x with b | b
 ·have h1:=Int.tmod_nonneg y b;have d:Int.tmod x y<=x:=by
   rcases Int.natAbs_eq y with a | a
   ·rw[a,Zcc b];rcases ZbO y.natAbs with h0 | h0
    ·grind
    ·have:=ZcM x (show(0:Int)<y.natAbs by omega);by_cases c:x<y.natAbs
     ·grind [Int.emod_eq_of_lt]
     ·omega
   ·rw[a,Int.tmod_neg,Zcc b];rcases ZbO y.natAbs with h0 | h0
    ·grind
    ·have:=ZcM x (show(0:Int)<y.natAbs by omega);by_cases c:x<y.natAbs
     ·grind [Int.emod_eq_of_lt]
     ·omega
  omega
 ·obtain⟨z,rfl⟩:∃z,x= -z:=⟨-x,ω⟩;rw[Int.neg_tmod];have hz:0<=z:=ω;have h1:=Int.tmod_nonneg y hz;have d:Int.tmod z y<=z:=by
   rcases Int.natAbs_eq y with a | a
   ·rw[a,Zcc hz];rcases ZbO y.natAbs with h0 | h0
    ·grind
    ·have:=ZcM z (show(0:Int)<y.natAbs by omega);by_cases c:z<y.natAbs
     ·grind [Int.emod_eq_of_lt]
     ·omega
   ·rw[a,Int.tmod_neg,Zcc hz];rcases ZbO y.natAbs with h0 | h0
    ·grind
    ·have:=ZcM z (show(0:Int)<y.natAbs by omega);by_cases c:z<y.natAbs
     ·grind [Int.emod_eq_of_lt]
     ·omega
  omega
theorem J' (h:fK k x) (h0:0<=x):fK k (x / 2 ^ m):=by
 rw[cL] at*
 have h1:0<=x / 2 ^ m:=Int.ediv_nonneg h0 (by grind);have a:x / 2 ^ m<=x:=Int.ediv_le_self _ h0;have b:De k<=0:=by cases k<;>simp[De]
 omega
section
variable {P:Program} {D:Data} {M:Pm D}
variable {Z:BinOp} {k d:IntKind} {v:CV} {x y:Int} {Y:AV D.E}
theorem QgM (h:∀k n,v=.num k n->fK k n):VR M (wE v:AV D.E) (Pb v):=by
 cases v with
 | num k n=>exact .num (h k n rfl)
 | lit b=>exact .lit b
theorem P0 (h:(XX D Z k x y).H Y) (i:fK k x) (T:TypeId) (h1:Z≠.shl) (f:Z≠.shr):
  ∃d,(∀w,(binOp Z T (.int k x) (.int k y)).run P w=.ok d w)/\VR M Y d:=by
 cases Z<;>simp only[XX] at h<;>(try exact absurd rfl h1)<;>(try exact absurd rfl f)<;>(try exact h.elim)
 case add=>cases aq.1 h;exact⟨_,λw=>by simp[binOp,Op.intArith];rfl,.int (cI _ _)⟩
 case sub=>cases aq.1 h;exact⟨_,λw=>by simp[binOp,Op.intArith];rfl,.int (cI _ _)⟩
 case mul=>cases aq.1 h;exact⟨_,λw=>by simp[binOp,Op.intArith];rfl,.int (cI _ _)⟩
 case quo=>
  obtain⟨h0,h⟩:=cY.1 h;cases aq.1 h;have c:y≠0:=by grind [aB]
  exact⟨_,λw=>by simp[binOp,Op.intDiv,c];rfl,.int (cI _ _)⟩
 case rem=>
  obtain⟨h0,h⟩:=cY.1 h;cases aq.1 h;have c:y≠0:=by grind [aB]
  exact⟨_,λw=>by simp[binOp,Op.intDiv,c];rfl,.int (DD i)⟩
 case and=>cases aq.1 h;exact⟨.int k (k.wrap ((BitVec.ofInt k.bits x&&& BitVec.ofInt k.bits y).toNat:Int)),λw=>by grind [binOp,Op.intBits,Sem.run_pure],by rw[BitVec.toNat_and,<-kE,<-kE];exact .int (cI _ _)⟩
 case or=>cases aq.1 h;exact⟨.int k (k.wrap ((BitVec.ofInt k.bits x||| BitVec.ofInt k.bits y).toNat:Int)),λw=>by grind [binOp,Op.intBits,Sem.run_pure],by rw[BitVec.toNat_or,<-kE,<-kE];exact .int (cI _ _)⟩
 case xor=>cases aq.1 h;exact⟨.int k (k.wrap ((BitVec.ofInt k.bits x ^^^ BitVec.ofInt k.bits y).toNat:Int)),λw=>by grind [binOp,Op.intBits,Sem.run_pure],by rw[Zdu,<-kE,<-kE];exact .int (cI _ _)⟩
 all_goals
  cases aq.1 h;refine⟨_,λw=>by simp only[binOp,Op.intCmp,ne_eq,Zce,Za0,Zzc];rfl,?_⟩;have g:∀a b:Bool,a=b->VR M (.bool a:AV D.E) (.bool b):=λa b e=>e▸.bool a
  apply g;rfl
theorem DE (h:(XY D Z k d x y).H Y) (f:fK k x) (T:TypeId):
  ∃g,(∀w,(binOp Z T (.int k x) (.int d y)).run P w=.ok g w)/\VR M Y g:=by
 by_cases h1:Z=.shl
 ·subst h1;obtain⟨h0,a⟩:=cY.1 (show(ask (aG 0 y) _).H Y from h);cases aq.1 a;have:¬y<0:=by grind [aG]
  exact⟨_,λw=>by simp only[binOp,Op.shift,Zaa this,Zzc];rfl,.int (cI _ _)⟩
 ·by_cases a:Z=.shr
  ·subst a;obtain⟨h0,b⟩:=cY.1 (show(ask (aG 0 y) _).H Y from h);obtain⟨l,j⟩:=cY.1 (show(ask (aG 0 x) _).H Y from b);cases aq.1 j;have:¬y<0:=by grind [aG]
   have c:0<=x:=by grind [aG]
   refine⟨.int k (x.fdiv (2 ^ min y.toNat k.bits)),λw=>by grind [binOp,Op.shift,Sem.run_pure],?_⟩;rw[Zdi _ (by grind)];exact .int (J' f c)
  ·have i:(bB (BI k d) (XX D Z k x y)).H Y:=by
    cases Z<;>first | exact h | exact absurd rfl h1 | exact absurd rfl a
   obtain⟨e,b⟩:=bA.1 i;obtain rfl:=fZ.1 e;exact P0 b f T h1 a
theorem pT {n:Nat} (h:MF k n=some v):v=.num k (k.wrap n):=by
 grind [MF,gn,jB]
theorem P2 (h:XS Z k x y=some v) (c:fK k x) (T:TypeId) (h1:Z≠.shl) (b:Z≠.shr):
  (∀w,(binOp Z T (.int k x) (.int k y)).run P w=.ok (Pb v) w)/\∀a n,v=.num a n->fK a n:=by
 cases Z<;>simp only[XS] at h<;>(try cases h)<;>(try exact absurd rfl h1)<;>(try exact absurd rfl b)
 case add=>rw[gn,jB] at h;subst h;exact⟨λw=>by simp[binOp,Op.intArith,Pb],λ_ _ e=>by grind [cI]⟩
 case sub=>rw[gn,jB] at h;subst h;exact⟨λw=>by simp[binOp,Op.intArith,Pb];rfl,λ_ _ e=>by grind [cI]⟩
 case mul=>rw[gn,jB] at h;subst h;exact⟨λw=>by simp[binOp,Op.intArith,Pb],λ_ _ e=>by grind [cI]⟩
 case quo=>
  rw[B0] at h;rcases h with⟨_,h⟩ | ⟨h0,h⟩
  ·cases h
  ·rw[gn,jB] at h;subst h;rw[qV] at h0;have:y≠0:=by grind
   exact⟨λw=>by simp[binOp,Op.intDiv,this,Pb],λ_ _ e=>by grind [cI]⟩
 case rem=>
  rw[B0] at h;rcases h with⟨_,h⟩ | ⟨h0,h⟩
  ·cases h
  ·rw[gn] at h;subst h;rw[qV] at h0;have:y≠0:=by grind
   exact⟨λw=>by simp[binOp,Op.intDiv,this,Pb],λ_ _ e=>by grind [DD]⟩
 case and=>have:=pT h;subst this;exact⟨λw=>by simp[binOp,Op.intBits,Pb,kE,BitVec.toNat_and];try rfl,λ_ _ e=>by grind [cI]⟩
 case or=>have:=pT h;subst this;exact⟨λw=>by simp[binOp,Op.intBits,Pb,kE,BitVec.toNat_or];try rfl,λ_ _ e=>by grind [cI]⟩
 case xor=>have:=pT h;subst this;exact⟨λw=>by simp[binOp,Op.intBits,Pb,kE,Zdu];try rfl,λ_ _ e=>by grind [cI]⟩
 all_goals
  refine⟨λw=>?_,λ_ _ e=>by cases e⟩
  (simp[binOp,Op.intCmp,Pb,qV,Gl];try rw[ZaG];try simp;try omega)
theorem Gm (h:BJ Z k d x y=some v) (f:fK k x) (T:TypeId):
  (∀w,(binOp Z T (.int k x) (.int d y)).run P w=.ok (Pb v) w)/\∀k2 n,v=.num k2 n->fK k2 n:=by
 by_cases h1:Z=.shl
 ·subst h1;simp only[BJ] at h;cases y with
  | negSucc m=>cases h
  | ofNat m=>
   simp only[Qgo] at h;rw[gn,jB,B4] at h;subst h;refine⟨λw=>?_,λ_ _ e=>by grind [cI]⟩;rfl
 ·by_cases a:Z=.shr
  ·subst a;simp only[BJ] at h;cases y with
   | negSucc m=>cases h
   | ofNat m=>
    cases x with
    | negSucc x=>cases h
    | ofNat x=>
     simp only[Qgp] at h;rw[gn,B4] at h;subst h;have e:Int.fdiv (Int.ofNat x) (2 ^ min (Int.ofNat m).toNat k.bits)=Int.ofNat (Nat.div x (Nat.pow 2 (min m k.bits))):=by
      show Int.fdiv (Int.ofNat x) (2 ^ min m k.bits)=_
      rw[show(2:Int) ^ min m k.bits=((2 ^ min m k.bits:Nat):Int) by simp,Zdi _ (ZaF _)];rfl
     refine⟨λw=>?_,λk2 n e2=>?_⟩
     ·have:¬((m:Int)<0):=ω;simp only[binOp,Op.shift];rw[Zaa (by simp),e];rfl
     ·grind [J']
  ·have c:oI (BI k d) (XS Z k x y)=some v:=by
    cases Z<;>first | exact h | exact absurd rfl h1 | exact absurd rfl a
   obtain⟨e,b⟩:=lO.1 c;obtain rfl:=fZ.1 e;exact P2 b f T h1 a
theorem bytesLess_eq:∀(x y:List UInt8),Op.bytesLess x y=decide (x<y)
 | [],[]=>by rfl
 | [],_::_=>by rfl
 | _::_,[]=>by rfl
 | a::x,b::y=>by
  show(a<b||(a==b&&Op.bytesLess x y))=_
  rw[bytesLess_eq x y,ZaG];simp[List.cons_lt_cons_iff]
theorem Gn {x y:List UInt8} (h:(BL D Z x y).H Y) (T:TypeId):∃d,(∀w,(binOp Z T (.string ⟨⟨x⟩⟩) (.string ⟨⟨y⟩⟩)).run P w=.ok d w)/\VR M Y d:=by
 have hl:∀z:List UInt8,(⟨⟨z⟩⟩:ByteArray).toList=z:=λz=>by
  simp_all
 have c:∀a b:List UInt8,Bool.not (decide (b<a))=(decide (a<b)||(a==b)):=λa b=>by
  grind
 cases Z<;>simp only[BL] at h<;>(try exact h.elim)
 case add=>
  obtain⟨h0,h⟩:=cY.1 h;cases aq.1 h;have h1:x.length+y.length<=9223372036854775807:=by
   have:((zn x y).length:Int)<=9223372036854775807:=ZaH h0;grind [zn]
  refine⟨.string ⟨⟨x++y⟩⟩,λw=>?_,.str (by grind [zn])⟩;have hs:¬((((⟨⟨x⟩⟩:ByteArray).size+(⟨⟨y⟩⟩:ByteArray).size:Nat):Int)>IntKind.i64.max):=by
   show ¬(((x.length+y.length:Nat):Int)>9223372036854775807)
   omega
  have g:(⟨⟨x⟩⟩:ByteArray)++⟨⟨y⟩⟩=⟨⟨x++y⟩⟩:=by
   rfl
  grind [binOp,Op.stringOp,Sem.run_pure]
 all_goals
  cases aq.1 h;refine⟨_,λw=>by simp only[binOp,Op.stringOp,Zzc,hl,bytesLess_eq];rfl,?_⟩;have f:∀a b:Bool,a=b->VR M (.bool a:AV D.E) (.bool b):=λa b e=>e▸.bool a
  apply f;simp only[seq,slt]<;>first | rfl | (rw[ZaG];simp;done) | exact c _ _ | (rw[<-c];simp)
end
end sx
end Go.Proofs.YtiiiphndmbabcaaGreat
