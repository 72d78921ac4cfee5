/- StreamTurned: a part of the proof. -/
import Derived.Orders
import Derived.Below
import Derived.Deep.AppendSrc
import Derived.Laws.Entries
import Derived.Laws.IdiomCopy
import Derived.IntWalk
import Derived.Lib.ConvBytes
import Derived.Laws.StructEq
import Derived.Test.YtklaonhcplaofaaGreatCA
set_option linter.all false
namespace Go.Proofs.YtklaonhcplaofaaGreat
namespace sx
open Go
noncomputable section
def oB {α β:Type} (x:Option α) (f:α->Option β):Option β:=Option.rec (motive:=λ_=>Option β) none f x
def oI {β:Type} (b:Bool) (x:Option β):Option β:=Bool.rec (motive:=λ_=>Option β) none x b
def oE {β:Type} (b:Bool) (x y:Option β):Option β:=Bool.rec (motive:=λ_=>Option β) y x b
inductive C (α:Type) where
 | ret (a:α)
 | fail
 | eN (p:Prop) (x:C α)
 | split (b:Bool) (x y:C α)
 | want (b:Bool) (x:C α)
def az {α β:Type} (x:C α) (f:α->C β):C β:=
 C.rec (motive:=λ_=>C β) f .fail (λp _ a=>.eN p a) (λb _ _ c d=>.split b c d) (λb _ a=>.want b a) x
def aL {α β a:Type} (x:C (α×β)) (f:α->β->C a):C a:=az x λp=>Prod.rec (motive:=λ_=>C a) f p
def bB {β:Type} (b:Bool) (x:C β):C β:=Bool.rec (motive:=λ_=>C β) .fail x b
def bE {β:Type} (b:Bool) (x y:C β):C β:=Bool.rec (motive:=λ_=>C β) y x b
def cN {α:Type} (x:Option α):C α:=Option.rec (motive:=λ_=>C α) .fail (λa=>.ret a) x
def ask {β:Type} (b:Bool) (x:C β):C β:=.want b x
def C.wp {α:Type} (x:C α) (K:α->Prop):Prop:=
 C.rec (motive:=λ_=>Prop) K False (λp _ a=>p/\a) (λb _ _ h1 c=>(b->h1)/\(b=false->c)) (λb _ a=>b/\a) x
def C.H {α:Type} (x:C α) (v:α):Prop:=
 C.rec (motive:=λ_=>Prop) (λa=>a=v) False (λp _ c=>p/\c) (λb _ _ h1 d=>(b/\h1)\/(b=false/\d)) (λb _ c=>b/\c) x
def knw {α:Type} (x:C α):C α:=
 C.rec (motive:=λ_=>C α) .ret .fail (λp _ a=>.eN p a) (λb _ _ h1 c=>bE b h1 c) (λb _ a=>bB b a) x
inductive T (α:Type) where
 | nil
 | node (v:Option α) (l r:T α)
def T.get {α:Type} (t:T α):Nat->Option α:=
 T.rec (motive:=λ_=>Nat->Option α) (λ_=>none)
  (λv _ _ gl gr k=>Nat.rec (motive:=λ_=>Option α) v
   (λk _=>Nat.rec (motive:=λ_=>Option α) (gl (Nat.div k (nat_lit 2))) (λ_ _=>gr (Nat.div k (nat_lit 2))) (Nat.mod k (nat_lit 2))) k) t
def T.mk1 {α:Type} (n:Nat):Nat->Option α->Option (T α):=
 Nat.rec (motive:=λ_=>Nat->Option α->Option (T α)) (λ_ _=>none)
  (λ_ b k a=>Nat.rec (motive:=λ_=>Option (T α)) (some (.node a .nil .nil))
   (λk _=>Nat.rec (motive:=λ_=>Option (T α)) (oB (b (Nat.div k (nat_lit 2)) a) λl=>some (.node none l .nil))
    (λ_ _=>oB (b (Nat.div k (nat_lit 2)) a) λr=>some (.node none .nil r)) (Nat.mod k (nat_lit 2))) k) n
def T.put {α:Type} (t:T α):Nat->Option α->Option (T α):=
 T.rec (motive:=λ_=>Nat->Option α->Option (T α)) (λk a=>T.mk1 (nat_lit 64) k a)
  (λv l r pl c k a=>Nat.rec (motive:=λ_=>Option (T α)) (some (.node a l r))
   (λk _=>Nat.rec (motive:=λ_=>Option (T α)) (oB (pl (Nat.div k (nat_lit 2)) a) λb=>some (.node v b r))
    (λ_ _=>oB (c (Nat.div k (nat_lit 2)) a) λd=>some (.node v l d)) (Nat.mod k (nat_lit 2))) k) t
def V6 (x y:Int):Bool:=match x with
 | .ofNat a=>match y with
  | .ofNat b=>Nat.beq a b
  | .negSucc _=>false
 | .negSucc a=>match y with
  | .ofNat _=>false
  | .negSucc b=>Nat.beq a b
def Wj (x y:Int):Bool:=match x with
 | .ofNat a=>match y with
  | .ofNat b=>Nat.ble (Nat.succ a) b
  | .negSucc _=>false
 | .negSucc a=>match y with
  | .ofNat _=>true
  | .negSucc b=>Nat.ble (Nat.succ b) a
def kIx:IntKind->Nat
 | .i8=>nat_lit 0 | .i16=>nat_lit 1 | .i32=>nat_lit 2 | .i64=>nat_lit 3 | .u8=>nat_lit 4 | .u16=>nat_lit 5 | .u32=>nat_lit 6 | .u64=>nat_lit 7
def AI (a b:IntKind):Bool:=Nat.beq (kIx a) (kIx b)
def kHi:IntKind->Nat
 | .i8=>nat_lit 127 | .i16=>nat_lit 32767 | .i32=>nat_lit 2147483647 | .i64=>nat_lit 9223372036854775807
 | .u8=>nat_lit 255 | .u16=>nat_lit 65535 | .u32=>nat_lit 4294967295 | .u64=>nat_lit 18446744073709551615
def kLo:IntKind->Nat
 | .i8=>nat_lit 128 | .i16=>nat_lit 32768 | .i32=>nat_lit 2147483648 | .i64=>nat_lit 9223372036854775808
 | .u8=>nat_lit 0 | .u16=>nat_lit 0 | .u32=>nat_lit 0 | .u64=>nat_lit 0
def t_:IntKind->Nat
 | .i8=>nat_lit 256 | .u8=>nat_lit 256 | .i16=>nat_lit 65536 | .u16=>nat_lit 65536 | .i32=>nat_lit 4294967296 | .u32=>nat_lit 4294967296
 | .i64=>nat_lit 18446744073709551616 | .u64=>nat_lit 18446744073709551616
def qV (k:IntKind) (n:Int):Int:=match n with
 | .ofNat m=>Bool.rec (motive:=λ_=>Int) (k.wrap (.ofNat m)) (.ofNat m) (Nat.ble m (kHi k))
 | .negSucc m=>Bool.rec (motive:=λ_=>Int) (k.wrap (.negSucc m)) (.negSucc m) (Nat.ble (Nat.succ m) (kLo k))
inductive CV where
 | num (k:IntKind) (n:Int)
 | lit (b:Bool)
def Fb (k:IntKind) (n:Int):Option CV:=match n with
 | .ofNat m=>Nat.rec (motive:=λ_=>Option CV) (some (.num k (.ofNat (nat_lit 0)))) (λm _=>some (.num k (.ofNat (Nat.succ m)))) m
 | .negSucc m=>Nat.rec (motive:=λ_=>Option CV) (some (.num k (.negSucc (nat_lit 0)))) (λm _=>some (.num k (.negSucc (Nat.succ m)))) m
def mkN (m:Nat):Option CV:=Nat.rec (motive:=λ_=>Option CV) (some (.num .i64 (.ofNat (nat_lit 0)))) (λm _=>some (.num .i64 (.ofNat (Nat.succ m)))) m
def Co (k:IntKind) (n:Int):Nat:=match n with
 | .ofNat m=>Nat.mod m (t_ k)
 | .negSucc m=>Nat.sub (Nat.sub (t_ k) (nat_lit 1)) (Nat.mod m (t_ k))
def Lp (k:IntKind) (n:Nat):Option CV:=Fb k (qV k (.ofNat n))
def Wl (op:BinOp) (k:IntKind) (x y:Int):Option CV:=match op with
 | .add=>Fb k (qV k (Int.add x y))
 | .sub=>Fb k (qV k (Int.sub x y))
 | .mul=>Fb k (qV k (Int.mul x y))
 | .quo=>oE (V6 y (.ofNat (nat_lit 0))) none (Fb k (qV k (Int.tdiv x y)))
 | .rem=>oE (V6 y (.ofNat (nat_lit 0))) none (Fb k (Int.tmod x y))
 | .and=>Lp k (Nat.land (Co k x) (Co k y))
 | .or=>Lp k (Nat.lor (Co k x) (Co k y))
 | .xor=>Lp k (Nat.xor (Co k x) (Co k y))
 | .eql=>some (.lit (V6 x y))
 | .neq=>some (.lit (Bool.not (V6 x y)))
 | .lss=>some (.lit (Wj x y))
 | .leq=>some (.lit (Bool.not (Wj y x)))
 | .gtr=>some (.lit (Wj y x))
 | .geq=>some (.lit (Bool.not (Wj x y)))
 | _=>none
def On (a b:Nat):Nat:=Bool.rec (motive:=λ_=>Nat) b a (Nat.ble a b)
def Qer (k:IntKind) (x:Int) (m:Nat):Option CV:=Fb k (qV k (Int.mul x (.ofNat (Nat.pow (nat_lit 2) (On m k.bits)))))
def Qes (k:IntKind) (x:Int) (m:Nat):Option CV:=match x with
 | .ofNat x=>Fb k (.ofNat (Nat.div x (Nat.pow (nat_lit 2) (On m k.bits))))
 | .negSucc _=>none
def AJ (op:BinOp) (k a:IntKind) (x y:Int):Option CV:=match op with
 | .shl=>match y with
  | .ofNat m=>Qer k x m
  | .negSucc _=>none
 | .shr=>match y with
  | .ofNat m=>Qes k x m
  | .negSucc _=>none
 | op=>oI (AI k a) (Wl op k x y)
def gn {α:Type} (l:List α):Nat->Option α:=
 List.rec (motive:=λ_=>Nat->Option α) (λ_=>none) (λa _ b n=>Nat.rec (motive:=λ_=>Option α) (some a) (λn _=>b n) n) l
def jM {α:Type} (l:List α):Nat:=List.rec (motive:=λ_=>Nat) (nat_lit 0) (λ_ _ a=>Nat.succ a) l
def je {α:Type} (f:α->Bool) (l:List α):Bool:=List.rec (motive:=λ_=>Bool) true (λa _ b=>Bool.rec (motive:=λ_=>Bool) false b (f a)) l
def AK {α:Type} (f:α->Bool) (l:List α):Bool:=List.rec (motive:=λ_=>Bool) false (λa _ b=>Bool.rec (motive:=λ_=>Bool) b true (f a)) l
def ss {α β:Type} (f:α->β) (l:List α):List β:=List.rec (motive:=λ_=>List β) [] (λa _ b=>f a::b) l
def mN {α:Type} (x y:List α):List α:=List.rec (motive:=λ_=>List α) y (λa _ b=>a::b) x
def tn {α:Type} (n:Nat):List α->Option (List α):=
 Nat.rec (motive:=λ_=>List α->Option (List α)) (λ_=>some [])
  (λ_ b l=>List.rec (motive:=λ_=>Option (List α)) none (λa x _=>oB (b x) λz=>some (a::z)) l) n
def nI {α:Type} (n:Nat):List α->List α:=
 Nat.rec (motive:=λ_=>List α->List α) (λl=>l) (λ_ a l=>List.rec (motive:=λ_=>List α) [] (λ_ x _=>a x) l) n
def IB {α:Type} (b:List α):List α->Option (List α):=
 List.rec (motive:=λ_=>List α->Option (List α)) (λcs=>some cs)
  (λv _ a cs=>List.rec (motive:=λ_=>Option (List α)) none (λ_ cs _=>oB (a cs) λz=>some (v::z)) cs) b
def Cp {α:Type} (n:Nat) (b:List α):List α->Option (List α):=
 Nat.rec (motive:=λ_=>List α->Option (List α)) (λcs=>IB b cs)
  (λ_ a cs=>List.rec (motive:=λ_=>Option (List α)) none (λc cs _=>oB (a cs) λz=>some (c::z)) cs) n
def Lq {α:Type} (n:Nat) (z:List α):List α:=Nat.rec (motive:=λ_=>List α) [] (λ_ a=>mN z a) n
def aw (k:IntKind) (a b:Int):Int:=k.wrap (a+b)
def cF (k:IntKind) (a b:Int):Int:=k.wrap (a-b)
def iB (k:IntKind) (a b:Int):Int:=k.wrap (a*b)
def Wm (k:IntKind) (a b:Int):Int:=k.wrap (Int.tdiv a b)
def QbT (a b:Int):Int:=Int.tmod a b
def pN (k:IntKind) (a b:Int):Int:=k.wrap (Int.ofNat (Nat.land (Co k a) (Co k b)))
def N5 (k:IntKind) (a b:Int):Int:=k.wrap (Int.ofNat (Nat.lor (Co k a) (Co k b)))
def QkO (k:IntKind) (a b:Int):Int:=k.wrap (Int.ofNat (Nat.xor (Co k a) (Co k b)))
def QkP (k:IntKind) (a:Int):Int:=k.wrap (-a)
def QkQ (k:IntKind) (a:Int):Int:=k.wrap (Int.ofNat (Nat.xor (t_ k-1) (Co k a)))
def vz (k:IntKind) (a:Int):Int:=k.wrap a
def su (k:IntKind) (x y:Int):Int:=k.wrap (x*2 ^ (min y.toNat k.bits))
def Qet (k:IntKind) (x y:Int):Int:=x / 2 ^ (min y.toNat k.bits)
def aC (a b:Int):Bool:=decide (a=b)
def ay (a b:Int):Bool:=decide (a<b)
def aH (a b:Int):Bool:=decide (a<=b)
def fK (a b:Int):Int:=if b<a then b else a
def imax (a b:Int):Int:=if a<b then b else a
def cn (b:Bool) (x y:Int):Int:=if b=true then x else y
def dL (s:List UInt8):Int:=s.length
def sat (s:List UInt8) (i:Int):Int:=(s.getD i.toNat 0).toNat
def yi (s t:List UInt8):List UInt8:=s++t
def seq (s t:List UInt8):Bool:=decide (s=t)
def slt (s t:List UInt8):Bool:=decide (s<t)
def pO (a b:Bool):Bool:=a==b
def gt {α:Type} (d:α) (xs:List α) (i:Nat):α:=xs.getD i d
def ag {α:Type} (xs:List α):Int:=xs.length
def dj {α:Type} (xs:List α) (n:Int):List α:=xs.take n.toNat
def qW {α:Type} (xs:List α) (n:Int):List α:=xs.drop n.toNat
def cC {α:Type} (xs:List α) (i:Nat) (x:α):List α:=xs.set i x
def bC {α:Type} (xs a:List α):List α:=xs++a
def kO {α:Type} (n:Int) (x:α):List α:=List.replicate n.toNat x
def qX {α:Type} (xs:List α) (o n:Int):List α:=(xs.drop o.toNat).take n.toNat
def Cq {α:Type} (xs:List α) (o n:Int) (a:List α):List α:=xs.take o.toNat++a.take n.toNat++xs.drop (o.toNat+(a.take n.toNat).length)
def BIG:Int:=9223372036854775807
def bx (n:Int) (bytes:Nat):Bool:=decide (n*bytes<=140737488355328)
def Ch (k:IntKind):Int:=match k with
 | .i8=>-128 | .i16=>-32768 | .i32=>-2147483648 | .i64=>-9223372036854775808 | .u8=>0 | .u16=>0 | .u32=>0 | .u64=>0
def sw (k:IntKind):Int:=match k with
 | .i8=>127 | .i16=>32767 | .i32=>2147483647 | .i64=>9223372036854775807 | .u8=>255 | .u16=>65535 | .u32=>4294967295 | .u64=>18446744073709551615
def iY (k:IntKind) (n:Int):Bool:=aH (Ch k) n&&aH n (sw k)
inductive AV (E:Nat->Type) where
 | bool (b:Bool)
 | lit (b:Bool)
 | int (k:IntKind) (n:Int)
 | num (k:IntKind) (n:Int)
 | str (s:List UInt8)
 | gy
 | ptr (b o:Nat)
 | j7 (g o:Nat)
 | lL (b k i j:Nat)
 | mP (c:Nat) (x:E c) (j:Nat)
 | dd
 | own (b k:Nat) (n:Int)
 | pre (b k:Nat) (n:Int)
 | part (b k:Nat) (o n:Int)
 | grow (c:Nat) (xs:List (E c)) (b:Nat)
 | sub (b o n:Nat)
 | list (c:Nat) (xs:List (E c))
 | pP
 | map (r:Nat)
 | func (fn:Fn) (first captured:List (AV E))
 | nilFunc
 | iface (t:TypeId) (v:AV E)
 | nilIface
 | agg (cs:List (AV E))
 | tuple (vs:List (AV E))
structure Data where
 E:Nat->Type
 size:Nat->Nat
 bd:(c:Nat)->E c->List (AV E)
 dec:(c:Nat)->List (AV E)->Option (E c)
 Wn:(c:Nat)->E c
 bc:Nat
 x9:List (E bc)->List UInt8
 ofB:List UInt8->List (E bc)
 ng:Nat
 gw:World->Prop
 gst:∀w w':World,(∀c,c<ng->w'.heap[c]?=w.heap[c]?)->gw w->gw w'
inductive AO (E:Nat->Type) where
 | cells (cs:List (AV E)) (elem:TypeId) (ro:Bool)
 | arr (c:Nat) (xs:List (E c)) (elem:TypeId) (ro:Bool)
 | tok (c:Nat) (elem:TypeId)
section
variable {E:Nat->Type}
def undef:AV E:=.tuple []
def QkR (s:ByteArray):AV E:=.str s.data.toList
def Oo (v:Value):Option (AV E):=match v with
 | .bool b=>some (.lit b)
 | .int k n=>oI (Bool.and (Bool.not (Wj n (Ch k))) (Bool.not (Wj (sw k) n))) (some (.num k n))
 | .string s=>oI (Nat.ble (jM s.data.toList) (nat_lit 9223372036854775807)) (some (QkR s))
 | .nilFunc=>some .nilFunc
 | .nilIface=>some .nilIface
 | .pointer a=>match a with
  | none=>some .gy
  | _=>none
 | .map a=>match a with
  | none=>some .pP
  | _=>none
 | .slice a l c=>match a with
  | none=>oI (Bool.and (Nat.beq l (nat_lit 0)) (Nat.beq c (nat_lit 0))) (some .dd)
  | _=>none
 | .func f x y=>match f with
  | .func g=>oI (Bool.and (Nat.beq (jM x.toList) (nat_lit 0)) (Nat.beq (jM y.toList) (nat_lit 0))) (some (.func (.func g) [] []))
  | _=>none
 | _=>none
def Wo (l:List Value):Option (List (AV E)):=List.rec (motive:=λ_=>Option (List (AV E))) (some []) (λv _ b=>oB (Oo v) λa=>oB b λr=>some (a::r)) l
def ofV (v:Value):Option (AV E):=match v with
 | .agg cs=>oB (Wo cs.toList) λl=>some (.agg l)
 | .tuple cs=>oB (Wo cs.toList) λl=>some (.tuple l)
 | v=>Oo v
def vA (v:CV):AV E:=match v with
 | .num k n=>.num k n
 | .lit b=>.lit b
def c_ (v:AV E):List (AV E):=match v with
 | .agg cs=>cs
 | v=>[v]
def one (v:AV E):Bool:=match v with
 | .agg _=>false
 | .tuple _=>false
 | _=>true
def cA (v:AV E):C (IntKind×Int):=match v with
 | .int k n=>.ret (k,n)
 | .num k n=>.ret (k,n)
 | _=>.fail
def asN (v:AV E):C Nat:=match v with
 | .num _ n=>match n with
  | .ofNat m=>.ret m
  | .negSucc _=>.fail
 | _=>.fail
def x_ (v:AV E):C (Bool×Bool):=match v with
 | .lit b=>.ret (b,true)
 | .bool b=>.ret (b,false)
 | _=>.fail
def asAgg (v:AV E):C (List (AV E)):=match v with
 | .agg cs=>.ret cs
 | _=>.fail
def Oq (v:AV E):C (List (AV E)):=match v with
 | .tuple cs=>.ret cs
 | _=>.fail
def gz (v:AV E):C (List UInt8):=match v with
 | .str s=>.ret s
 | _=>.fail
def gi (c a:Nat) (xs:List (E a)):C (List (E c)):=Decidable.rec (motive:=λ_=>C (List (E c))) (λ_=>.fail) (λh=>.ret (Eq.rec (motive:=λc _=>List (E c)) xs h)) (Nat.decEq a c)
def IC (c a:Nat) (x:E a):C (E c):=Decidable.rec (motive:=λ_=>C (E c)) (λ_=>.fail) (λh=>.ret (Eq.rec (motive:=λc _=>E c) x h)) (Nat.decEq a c)
end
structure St (E:Nat->Type) where
 h:T (AO E)
 nx:Nat
section
variable {E:Nat->Type}
def St.new (s:St E) (o:AO E):C (Nat×St E):=
 Nat.rec (motive:=λ_=>C (Nat×St E)) (az (cN (s.h.put (nat_lit 0) (some o))) λh=>.ret (nat_lit 0,⟨h,nat_lit 1⟩)) (λn _=>az (cN (s.h.put (Nat.succ n) (some o))) λh=>.ret (Nat.succ n,⟨h,Nat.succ (Nat.succ n)⟩)) s.nx
def St.set (s:St E) (b:Nat) (o:Option (AO E)):C (St E):=az (cN (s.h.put b o)) λh=>.ret ⟨h,s.nx⟩
def o9 (s:St E) (b:Nat):C (List (AV E)):=az (cN (s.h.get b)) λo=>match o with
 | .cells cs _ _=>.ret cs
 | _=>.fail
def QbU (s:St E) (b:Nat):C (List (AV E)×TypeId):=az (cN (s.h.get b)) λo=>match o with
 | .cells cs e ro=>Bool.rec (motive:=λ_=>C (List (AV E)×TypeId)) (.ret (cs,e)) .fail ro
 | _=>.fail
structure Ar (E:Nat->Type) where
 c:Nat
 xs:List (E c)
 e:TypeId
 ro:Bool
def j8 (s:St E) (b:Nat):C (Ar E):=az (cN (s.h.get b)) λo=>match o with
 | .arr c xs e ro=>.ret ⟨c,xs,e,ro⟩
 | _=>.fail
def Ϭ (s:St E) (b:Nat):C (Nat×TypeId):=az (cN (s.h.get b)) λo=>match o with
 | .tok c e=>.ret (c,e)
 | _=>.fail
end
def tp (d:TypeDesc):C TypeId:=match d with
 | .slice e=>.ret e
 | _=>.fail
def ID (d:TypeDesc):C (List Field):=match d with
 | .struct a=>.ret a.toList
 | _=>.fail
def QbV (d:TypeDesc):Bool:=match d with
 | .string=>true
 | _=>false
def ϭ (d:TypeDesc):Bool:=match d with
 | .slice _=>true
 | _=>false
def QbW (d:TypeDesc):Bool:=match d with
 | .struct _=>true
 | .array _ _=>true
 | _=>false
def dU8 (d:TypeDesc):Bool:=match d with
 | .int k=>match k with
  | .u8=>true
  | _=>false
 | _=>false
section
variable (P:Program) (D:Data) (cd:TypeId->Option Nat)
def ub (t:TypeId):Option Nat:=Option.rec (motive:=λ_=>Option Nat) none (λi=>some i.size) (P.info? t)
def Wp (t:TypeId):Option Nat:=Option.rec (motive:=λ_=>Option Nat) none (λi=>some i.bytes) (P.info? t)
def ud (t:TypeId):C TypeDesc:=cN (P.underlying t)
def sz (t:TypeId):C Nat:=cN (ub P t)
def zeroOf (t:TypeId):C (AV D.E):=az (cN (P.info? t)) λi=>az (cN i.zero) λz=>cN (ofV z)
def ev (φ:T (AV D.E)) (x:Operand):C (AV D.E):=match x with
 | .tmp t=>cN (φ.get t)
 | .const v=>cN (ofV v)
 | .global g=>bB (Nat.ble (Nat.succ g) P.globals.size) (.ret (.j7 g (nat_lit 0)))
 | .func f=>.ret (.func (.func f) [] [])
def Ot (φ:T (AV D.E)) (l:List Operand):C (List (AV D.E)):=
 List.rec (motive:=λ_=>C (List (AV D.E))) (.ret []) (λx _ a=>az (ev P D φ x) λv=>az a λb=>.ret (v::b)) l
def jD (t:TypeId) (cs:List (AV D.E)) (o:Nat):C (AV D.E):=az (ud P t) λd=>
 bE (QbW d) (az (sz P t) λk=>az (cN (tn k (nI o cs))) λl=>.ret (.agg l)) (cN (gn cs o))
def qh (e:TypeId):C Nat:=az (cN (cd e)) λc=>az (sz P e) λk=>bB (Nat.beq k (D.size c)) (bB (Nat.ble (nat_lit 1) k) (.ret c))
def rowAt (a:Ar D.E) (i:Nat):List (AV D.E):=D.bd a.c (gt (D.Wn a.c) a.xs i)
def Cr (s:St D.E) (t:TypeId) (p:AV D.E):C (AV D.E):=match p with
 | .ptr b o=>az (o9 s b) λcs=>jD P D t cs o
 | .lL b _ i j=>az (j8 s b) λa=>jD P D t (rowAt D a i) j
 | .mP c x j=>jD P D t (D.bd c x) j
 | _=>.fail
def sy (s:St D.E) (b o:Nat) (a:List (AV D.E)):C (St D.E):=aL (QbU s b) λcs e=>az (cN (Cp o a cs)) λcs=>s.set b (some (.cells cs e false))
def qi (c:Nat) (row:List (AV D.E)):C (D.E c):=cN (D.dec c row)
def Ou (s:St D.E) (b i j:Nat) (d:List (AV D.E)):C (St D.E):=az (j8 s b) λa=>match a with
 | ⟨c,xs,e,ro⟩=>Bool.rec (motive:=λ_=>C (St D.E)) (az (cN (Cp j d (D.bd c (gt (D.Wn c) xs i)))) λrow=>az (qi D c row) λx=>s.set b (some (.arr c (cC xs i x) e false))) .fail ro
def IE (s:St D.E) (t:TypeId) (p x:AV D.E):C (St D.E):=az (sz P t) λk=>bB (Nat.beq (jM (c_ x)) k) (bB (je one (c_ x)) (match p with
 | .ptr b o=>sy D s b o (c_ x)
 | .lL b _ i j=>Ou D s b i j (c_ x)
 | _=>.fail))
def Wq (op:BinOp) (k:IntKind) (x y:Int):C (AV D.E):=match op with
 | .add=>.ret (.int k (aw k x y))
 | .sub=>.ret (.int k (cF k x y))
 | .mul=>.ret (.int k (iB k x y))
 | .quo=>ask (Bool.not (aC y (.ofNat (nat_lit 0)))) (.ret (.int k (Wm k x y)))
 | .rem=>ask (Bool.not (aC y (.ofNat (nat_lit 0)))) (.ret (.int k (QbT x y)))
 | .and=>.ret (.int k (pN k x y))
 | .or=>.ret (.int k (N5 k x y))
 | .xor=>.ret (.int k (QkO k x y))
 | .eql=>.ret (.bool (aC x y))
 | .neq=>.ret (.bool (Bool.not (aC x y)))
 | .lss=>.ret (.bool (ay x y))
 | .leq=>.ret (.bool (aH x y))
 | .gtr=>.ret (.bool (ay y x))
 | .geq=>.ret (.bool (aH y x))
 | _=>.fail
def Wr (op:BinOp) (k a:IntKind) (x y:Int):C (AV D.E):=match op with
 | .shl=>ask (aH (.ofNat (nat_lit 0)) y) (.ret (.int k (su k x y)))
 | .shr=>ask (aH (.ofNat (nat_lit 0)) y) (ask (aH (.ofNat (nat_lit 0)) x) (.ret (.int k (Qet k x y))))
 | op=>bB (AI k a) (Wq D op k x y)
def AL (op:BinOp) (x y:List UInt8):C (AV D.E):=match op with
 | .add=>ask (aH (dL (yi x y)) BIG) (.ret (.str (yi x y)))
 | .eql=>.ret (.bool (seq x y))
 | .neq=>.ret (.bool (Bool.not (seq x y)))
 | .lss=>.ret (.bool (slt x y))
 | .leq=>.ret (.bool (Bool.not (slt y x)))
 | .gtr=>.ret (.bool (slt y x))
 | .geq=>.ret (.bool (Bool.not (slt x y)))
 | _=>.fail
def AM (v:AV D.E):C Bool:=match v with
 | .gy=>.ret true
 | .ptr _ _=>.ret false
 | .j7 _ _=>.ret false
 | .lL _ _ _ _=>.ret false
 | .mP _ _ _=>.ret false
 | .dd=>.ret true
 | .pP=>.ret true
 | .map _=>.ret false
 | .nilFunc=>.ret true
 | .func _ _ _=>.ret false
 | .nilIface=>.ret true
 | .iface _ _=>.ret false
 | .list _ xs=>ask (ay (.ofNat (nat_lit 0)) (ag xs)) (.ret false)
 | _=>.fail
def Fc (v:AV D.E):Nat:=match v with
 | .gy=>nat_lit 1 | .ptr _ _=>nat_lit 1 | .j7 _ _=>nat_lit 1 | .lL _ _ _ _=>nat_lit 1 | .mP _ _ _=>nat_lit 1
 | .dd=>nat_lit 2 | .list _ _=>nat_lit 2 | .pP=>nat_lit 3 | .map _=>nat_lit 3 | .nilFunc=>nat_lit 4 | .func _ _ _=>nat_lit 4 | .nilIface=>nat_lit 5 | .iface _ _=>nat_lit 5
 | _=>nat_lit 0
def Ϯ (d:TypeDesc):Nat:=match d with
 | .pointer _=>nat_lit 1
 | .slice _=>nat_lit 2
 | .map _ _=>nat_lit 3
 | .func _ _ _=>nat_lit 4
 | .interface _=>nat_lit 5
 | _=>nat_lit 6
def ϯ (d:TypeDesc) (x y:AV D.E):C (Bool×Bool):=bB (Nat.beq (Fc D x) (Ϯ d)) (bB (Nat.beq (Fc D y) (Ϯ d)) (az (AM D x) λa=>az (AM D y) λb=>bE (Bool.or a b) (.ret (Bool.and a b,true)) .fail))
def IF (x y:AV D.E):C (Bool×Bool):=match x with
 | .num k a=>match y with
  | .num c b=>bB (AI k c) (.ret (V6 a b,true))
  | .int c b=>bB (AI k c) (.ret (aC a b,false))
  | _=>.fail
 | .int k a=>aL (cA y) λc b=>bB (AI k c) (.ret (aC a b,false))
 | _=>.fail
def Fe (d:TypeDesc) (x y:AV D.E):C (Bool×Bool):=match d with
 | .bool=>aL (x_ x) λa p=>aL (x_ y) λb q=>.ret (pO a b,Bool.and p q)
 | .int _=>IF D x y
 | .string=>az (gz x) λa=>az (gz y) λb=>.ret (seq a b,false)
 | d=>ϯ D d x y
def Cs (a b:Bool×Bool):Bool×Bool:=match a with
 | (x,p)=>match b with
  | (y,q)=>bif p then(bif x then(y,q) else(false,true)) else(bif q then(bif y then(x,p) else(false,true)) else(Bool.and x y,false))
def uH (b:TypeId->AV D.E->AV D.E->C (Bool×Bool)) (e:TypeId) (k:Nat) (xs d:List (AV D.E)) (n:Nat):Nat->C (Bool×Bool):=
 Nat.rec (motive:=λ_=>Nat->C (Bool×Bool)) (λ_=>.ret (true,true))
  (λ_ a i=>az (jD P D e xs (Nat.mul i k)) λx=>az (jD P D e d (Nat.mul i k)) λy=>az (b e x y) λr=>az (a (Nat.succ i)) λc=>.ret (Cs r c)) n
def eqFields (ih:TypeId->AV D.E->AV D.E->C (Bool×Bool)) (xs ys:List (AV D.E)) (fs:List Field):C (Bool×Bool):=
 List.rec (motive:=λ_=>C (Bool×Bool)) (.ret (true,true))
  (λf _ ihf=>bE (decide (f.name= "_")) .fail (az (jD P D f.type xs f.offset) λx=>az (jD P D f.type ys f.offset) λy=>az (ih f.type x y) λr=>az ihf λr'=>.ret (Cs r r'))) fs
def eqD (b:TypeId->AV D.E->AV D.E->C (Bool×Bool)) (t:TypeId) (d:TypeDesc) (x y:AV D.E):C (Bool×Bool):=match d with
 | .struct c=>az (asAgg x) λxs=>az (asAgg y) λa=>bE (P.stoodInHeld t) .fail (eqFields P D b xs a c.toList)
 | .array len e=>az (asAgg x) λxs=>az (asAgg y) λa=>az (sz P e) λk=>uH P D b e k xs a len (nat_lit 0)
 | d=>Fe D d x y
def N6 (n:Nat):TypeId->AV D.E->AV D.E->C (Bool×Bool):=
 Nat.rec (motive:=λ_=>TypeId->AV D.E->AV D.E->C (Bool×Bool)) (λ_ _ _=>.fail) (λ_ a t x y=>az (ud P t) λd=>eqD P D a t d x y) n
def Ov (t:TypeId) (x y:AV D.E):C (Bool×Bool):=match x with
 | .agg _=>bE (P.eqGuardType P.depth t) .fail (N6 P D (nat_lit 4) t x y)
 | .nilIface=>match y with
  | .nilIface=>.fail
  | _=>N6 P D (nat_lit 4) t x y
 | _=>N6 P D (nat_lit 4) t x y
def mkT (b c:Bool):AV D.E:=bif c then .lit b else .bool b
def Ow (op:BinOp) (t:TypeId) (x y:AV D.E):C (AV D.E):=match op with
 | .eql=>aL (Ov P D t x y) λr c=>.ret (mkT D r c)
 | .neq=>aL (Ov P D t x y) λr c=>.ret (mkT D (Bool.not r) c)
 | _=>.fail
def Qey (op:BinOp) (t:TypeId) (x y:AV D.E):C (AV D.E):=match x with
 | .num k a=>match y with
  | .num c b=>az (cN (AJ op k c a b)) λv=>.ret (vA v)
  | .int c b=>Wr D op k c a b
  | _=>.fail
 | .int k a=>aL (cA y) λc b=>Wr D op k c a b
 | .str a=>az (gz y) λb=>AL D op a b
 | x=>Ow P D op t x y
def isConst (x:Operand):Bool:=match x with
 | .const _=>true
 | _=>false
def QbX (v:AV D.E):Bool:=match v with
 | .nilIface=>true
 | _=>false
def Qez (d:TypeDesc):Bool:=match d with
 | .interface _=>true
 | _=>false
def nnA (op:BinOp):C (AV D.E):=match op with
 | .eql=>.ret (.lit true)
 | .neq=>.ret (.lit false)
 | _=>.fail
def QeA (op:BinOp) (t:TypeId) (a b:Operand) (x y:AV D.E):C (AV D.E):=bE (Bool.and (Bool.or (isConst a) (isConst b)) (Bool.and (QbX D x) (QbX D y))) (az (ud P t) λd=>bB (Qez d) (nnA D op)) (Qey P D op t x y)
def unA (op:UnOp) (x:AV D.E):C (AV D.E):=match op with
 | .neg=>match x with
  | .num k n=>az (cN (Fb k (qV k (Int.neg n)))) λv=>.ret (vA v)
  | .int k n=>.ret (.int k (QkP k n))
  | _=>.fail
 | .xor=>match x with
  | .num k n=>az (cN (Lp k (Nat.xor (Nat.sub (t_ k) (nat_lit 1)) (Co k n)))) λv=>.ret (vA v)
  | .int k n=>.ret (.int k (QkQ k n))
  | _=>.fail
 | .not=>aL (x_ x) λb c=>.ret (mkT D (Bool.not b) c)
 | _=>.fail
def QeB (c:Nat) (cs:List (AV D.E)) (n:Nat):Nat->C (List (D.E c)):=
 Nat.rec (motive:=λ_=>Nat->C (List (D.E c))) (λ_=>.ret []) (λ_ a o=>az (cN (gn cs o)) λv=>az (cN (D.dec c [v])) λx=>az (a (Nat.succ o)) λr=>.ret (x::r)) n
def aU (s:St D.E) (c:Nat) (x:AV D.E):C (List (D.E c)):=match x with
 | .list d xs=>gi c d xs
 | .grow d xs _=>gi c d xs
 | .own b _ _=>az (j8 s b) λa=>match a with
  | ⟨d,xs,_,_⟩=>gi c d xs
 | .pre b _ n=>az (j8 s b) λa=>match a with
  | ⟨d,xs,_,_⟩=>gi c d (dj xs n)
 | .part b _ o n=>az (j8 s b) λa=>match a with
  | ⟨d,xs,_,_⟩=>gi c d (qX xs o n)
 | .dd=>.ret []
 | .str l=>gi c D.bc (D.ofB l)
 | .sub b o n=>bB (Nat.beq (D.size c) (nat_lit 1)) (az (o9 s b) λcs=>QeB D c cs n o)
 | _=>.fail
def Ox (x:AV D.E):C (AV D.E):=match x with
 | .list _ xs=>.ret (.int .i64 (ag xs))
 | .grow _ xs _=>.ret (.int .i64 (ag xs))
 | .own _ _ n=>.ret (.int .i64 n)
 | .pre _ _ n=>.ret (.int .i64 n)
 | .part _ _ _ n=>.ret (.int .i64 n)
 | .dd=>.ret (.num .i64 (.ofNat (nat_lit 0)))
 | .sub _ _ n=>az (cN (mkN n)) λv=>.ret (vA v)
 | _=>.fail
def QeC (t:TypeId) (x:AV D.E):C (AV D.E):=az (ud P t) λd=>match d with
 | .string=>az (gz x) λl=>.ret (.int .i64 (dL l))
 | .slice _=>Ox D x
 | .array n _=>az (cN (mkN n)) λv=>bB (Nat.ble n (nat_lit 1099511627776)) (.ret (vA v))
 | _=>.fail
def Oy (s:St D.E) (c:Nat) (xs:List (D.E c)) (e:TypeId):C (AV D.E×St D.E):=aL (s.new (.arr c xs e false)) λb s=>.ret (.own b (D.size c) (ag xs),s)
def AN (s:St D.E) (c:Nat) (xs:List (D.E c)) (e:TypeId):C (AV D.E×St D.E):=aL (s.new (.tok c e)) λb s=>.ret (.grow c xs b,s)
def newRow (mu:Bool) (s:St D.E) (c:Nat) (xs:List (D.E c)) (e:TypeId):C (AV D.E×St D.E):=bif mu then Oy D s c xs e else AN D s c xs e
def Ff (d:Nat) (s:St D.E) (c:Nat) (e:TypeId) (b:Nat) (cut:List (D.E c)->List (D.E c)) (f:List (D.E c)):C (AV D.E×St D.E):=az (j8 s b) λa=>match a with
 | ⟨g,xs,h,ro⟩=>Bool.rec (motive:=λ_=>C (AV D.E×St D.E)) (bB (Nat.beq h e) (az (gi c g xs) λxs=>ask (bx (ag (bC (cut xs) f)) d) (az (s.set b none) λs=>aL (s.new (.arr c (bC (cut xs) f) e false)) λb s=>.ret (.own b (D.size c) (ag (bC (cut xs) f)),s)))) .fail ro
def Ct (mu:Bool) (a:Nat) (s:St D.E) (c:Nat) (e:TypeId) (d:AV D.E) (f:List (D.E c)):C (AV D.E×St D.E):=match d with
 | .dd=>ask (bx (ag f) a) (newRow D mu s c f e)
 | .grow g xs b=>aL (Ϭ s b) λc2 h=>bB (Nat.beq c2 c) (bB (Nat.beq h e) (az (gi c g xs) λxs=>ask (bx (ag (bC xs f)) a) (az (s.set b none) λs=>AN D s c (bC xs f) e)))
 | .own b _ _=>Ff D a s c e b (λxs=>xs) f
 | .pre b _ n=>Ff D a s c e b (λxs=>dj xs n) f
 | _=>.fail
def IG (mu:Bool) (s:St D.E) (t u:TypeId) (d x:AV D.E):C (AV D.E×St D.E):=az (ud P t) λb=>az (tp b) λe=>az (ud P u) λa=>bB (Bool.or (ϭ a) (QbV a))
 (az (qh P D cd e) λc=>az (cN (Wp P e)) λbytes=>bB (Nat.ble bytes (nat_lit 65536)) (bB (Nat.ble (nat_lit 1) bytes) (az (zeroOf P D e) λz=>bB (Nat.beq (jM (c_ z)) (D.size c)) (az (aU D s c x) λf=>Ct D mu bytes s c e d f))))
def IH (l:List UInt8) (cs:List (AV D.E)):Nat->C (List (AV D.E)):=
 List.rec (motive:=λ_=>Nat->C (List (AV D.E))) (λ_=>.ret []) (λv _ a i=>aL (cA v) λk n=>bB (AI k .u8) (az (a (Nat.succ i)) λr=>.ret (.int .u8 (cn (ay (.ofNat i) (dL l)) (sat l (.ofNat i)) n)::r))) cs
def AP (s:St D.E) (b:Nat) (o n:Int) (x:AV D.E) (c:Nat):C (AV D.E×St D.E):=az (j8 s b) λa=>match a with
 | ⟨d,xs,f,ro⟩=>Bool.rec (motive:=λ_=>C (AV D.E×St D.E)) (az (aU D s d x) λe=>bB (Nat.beq c d) (az (s.set b (some (.arr d (Cq xs o n e) f false))) λs=>.ret (.int .i64 (fK n (ag e)),s))) .fail ro
def ϰ (s:St D.E) (t:TypeId) (d x:AV D.E):C (AV D.E×St D.E):=az (ud P t) λh=>az (tp h) λe=>az (qh P D cd e) λc=>match d with
 | .own b _ n=>AP D s b (.ofNat (nat_lit 0)) n x c
 | .pre b _ n=>AP D s b (.ofNat (nat_lit 0)) n x c
 | .part b _ o n=>AP D s b o n x c
 | .sub b o n=>bB (Nat.beq c D.bc) (bB (Nat.ble n (nat_lit 1000)) (match x with
  | .sub g i a=>az (o9 s g) λcs=>az (cN (tn (On a n) (nI i cs))) λl=>bB (je one l) (az (sy D s b o l) λs=>az (cN (mkN (On a n))) λv=>.ret (vA v,s))
  | x=>az (aU D s D.bc x) λf=>az (o9 s b) λcs=>az (cN (tn n (nI o cs))) λl=>az (IH D (D.x9 f) l (nat_lit 0)) λl=>az (sy D s b o l) λs=>.ret (.int .i64 (fK (.ofNat n) (dL (D.x9 f))),s)))
 | _=>.fail
def evO (φ:T (AV D.E)) (x:Option Operand):C (Option (AV D.E)):=
 Option.rec (motive:=λ_=>C (Option (AV D.E))) (.ret none) (λx=>az (ev P D φ x) λv=>.ret (some v)) x
def zI:Int:=.ofNat (nat_lit 0)
def QeD {α:Type} (xs:List α) (hi:Option (AV D.E)):C (List α):=Option.rec (motive:=λ_=>C (List α)) (.ret xs) (λv=>aL (cA v) λ_ h=>ask (aH zI h) (ask (aH h (ag xs)) (.ret (dj xs h)))) hi
def QeE {α:Type} (xs:List α) (lo:Option (AV D.E)):C (List α):=Option.rec (motive:=λ_=>C (List α)) (.ret xs) (λv=>aL (cA v) λ_ l=>ask (aH zI l) (ask (aH l (ag xs)) (.ret (qW xs l)))) lo
def QeF {α:Type} (xs:List α) (hi mx:Option (AV D.E)):C Unit:=Option.rec (motive:=λ_=>C Unit) (.ret ()) (λv=>aL (cA v) λ_ m=>az (cN hi) λhi=>aL (cA hi) λ_ h=>ask (aH h m) (ask (aH m (ag xs)) (.ret ()))) mx
def Lr {α:Type} (xs:List α) (lo hi mx:Option (AV D.E)):C (List α):=az (QeF D xs hi mx) λ_=>az (QeD D xs hi) λa=>QeE D a lo
def Oz (lo:Option (AV D.E)):Bool:=Option.rec (motive:=λ_=>Bool) true (λv=>match v with
 | .num _ n=>V6 n zI
 | _=>false) lo
def n' (x:Option (AV D.E)) (d hi:Nat):C Nat:=Option.rec (motive:=λ_=>C Nat) (.ret d) (λv=>az (asN v) λm=>bB (Nat.ble m hi) (.ret m)) x
def hI (x:Option (AV D.E)) (d hi:Int):C Int:=Option.rec (motive:=λ_=>C Int) (.ret d) (λv=>aL (cA v) λ_ m=>ask (aH zI m) (ask (aH m hi) (.ret m))) x
def yP (b k:Nat) (l h:Int) (z:Bool):AV D.E:=bif z then .pre b k h else .part b k l (h-l)
def Fh (b k:Nat) (o l h:Int) (z:Bool):AV D.E:=bif z then .part b k o h else .part b k (o+l) (h-l)
def OA (t:TypeId) (x:AV D.E) (lo hi mx:Option (AV D.E)):C (AV D.E):=az (ud P t) λd=>match d with
 | .string=>bB (Option.isNone mx) (az (gz x) λl=>az (Lr D l lo hi mx) λr=>.ret (.str r))
 | .slice e=>az (sz P e) λk=>match x with
  | .list c xs=>bB (Nat.beq k (D.size c)) (az (Lr D xs lo hi mx) λr=>.ret (.list c r))
  | .grow c xs _=>bB (Nat.beq k (D.size c)) (az (Lr D xs lo hi mx) λr=>.ret (.list c r))
  | .dd=>az (n' D mx (nat_lit 0) (nat_lit 0)) λ_=>az (n' D hi (nat_lit 0) (nat_lit 0)) λ_=>az (n' D lo (nat_lit 0) (nat_lit 0)) λ_=>bE (Bool.and (Option.isSome mx) (Option.isNone hi)) .fail (.ret .dd)
  | .own b a n=>bB (Bool.and (Nat.beq a k) (Option.isNone mx)) (az (hI D hi n n) λh=>az (hI D lo zI h) λl=>.ret (yP D b k l h (Oz D lo)))
  | .pre b a n=>bB (Bool.and (Nat.beq a k) (Option.isNone mx)) (az (hI D hi n n) λh=>az (hI D lo zI h) λl=>.ret (yP D b k l h (Oz D lo)))
  | .part b a o n=>bB (Bool.and (Nat.beq a k) (Option.isNone mx)) (az (hI D hi n n) λh=>az (hI D lo zI h) λl=>.ret (Fh D b k o l h (Oz D lo)))
  | .sub b o n=>az (n' D hi n n) λh=>az (n' D lo (nat_lit 0) h) λl=>bB (Bool.and (Nat.beq k (nat_lit 1)) (Option.isNone mx)) (.ret (.sub b (Nat.add o l) (Nat.sub h l)))
  | _=>.fail
 | .array n e=>match x with
  | .ptr b o=>az (sz P e) λk=>bB (Nat.beq k (nat_lit 1)) (bB (Bool.and (Nat.ble n (nat_lit 1099511627776)) (Option.isNone mx)) (az (n' D hi n n) λh=>az (n' D lo (nat_lit 0) h) λl=>.ret (.sub b (Nat.add o l) (Nat.sub h l))))
  | _=>.fail
 | _=>.fail
def vC (aO:Nat->C (Nat×Nat)) (φ:T (AV D.E)) (b:List (Nat×Operand)):List (AV D.E)->C (List (AV D.E)):=
 List.rec (motive:=λ_=>List (AV D.E)->C (List (AV D.E))) (λcs=>.ret cs)
  (λp _ a cs=>aL (.ret p) λi x=>aL (aO i) λoff size=>az (ev P D φ x) λv=>bB (Nat.beq (jM (c_ v)) size) (az (cN (Cp off (c_ v) cs)) λcs=>a cs)) b
def OB (a:List Field) (i:Nat):C (Nat×Nat):=az (cN (gn a i)) λf=>az (sz P f.type) λk=>.ret (f.offset,k)
def ϱ (a:List Field):Bool:=je (λf=>Option.rec (motive:=λ_=>Bool) false (λ_=>true) (ub P f.type)) a
def II (φ:T (AV D.E)) (t:TypeId) (parts:List (Nat×Operand)):C (AV D.E):=az (zeroOf P D t) λz=>az (ud P t) λd=>match d with
 | .struct a=>bB (ϱ P a.toList) (az (vC P D (OB P a.toList) φ parts (c_ z)) λcs=>.ret (.agg cs))
 | .array _ e=>az (sz P e) λk=>az (vC P D (λi=>.ret (Nat.mul i k,k)) φ parts (c_ z)) λcs=>.ret (.agg cs)
 | _=>.fail
def Fi (c k:Nat) (n:Nat):List (AV D.E)->C (List (D.E c)):=
 Nat.rec (motive:=λ_=>List (AV D.E)->C (List (D.E c))) (λ_=>.ret [])
  (λ_ a cs=>az (cN (tn k cs)) λrow=>az (qi D c row) λx=>az (a (nI k cs)) λr=>.ret (x::r)) n
def yQ (mu:Bool) (s:St D.E) (φ:T (AV D.E)) (t:TypeId) (len:Nat) (parts:List (Nat×Operand)):C (AV D.E×St D.E):=az (ud P t) λd=>az (tp d) λe=>az (qh P D cd e) λc=>az (zeroOf P D e) λz=>
 bB (Nat.beq (jM (c_ z)) (D.size c)) (bB (Nat.ble (Nat.mul len (D.size c)) (nat_lit 100000))
  (az (vC P D (λi=>.ret (Nat.mul i (D.size c),D.size c)) φ parts (Lq len (c_ z))) λcs=>bB (je one cs) (az (Fi D c (D.size c) len cs) λxs=>newRow D mu s c xs e)))
def QeG (v:AV D.E):Bool:=match v with
 | .num _ n=>V6 n zI
 | _=>false
def Cu (mu:Bool) (s:St D.E) (t:TypeId) (l c:AV D.E):C (AV D.E×St D.E):=az (ud P t) λd=>az (tp d) λe=>aL (cA l) λb n=>bB (AI b .i64) (aL (cA c) λf m=>bB (AI f .i64) (az (qh P D cd e) λc=>az (cN (Wp P e)) λa=>az (zeroOf P D e) λz=>
 bB (Nat.beq (jM (c_ z)) (D.size c)) (bB (Nat.ble a (nat_lit 65536)) (az (qi D c (c_ z)) λx=>ask (aH zI n) (ask (aH n m) (ask (bx m a)
  (bE (Bool.and (QeG D l) (Bool.not mu)) (AN D s c [] e) (Oy D s c (kO n x) e))))))))
def OC (x:AV D.E):C (AV D.E):=match x with
 | .ptr _ _=>.ret x
 | .j7 _ _=>.ret x
 | .lL _ _ _ _=>.ret x
 | .mP _ _ _=>.ret x
 | .func f _ _=>match f with
  | .func _=>.ret x
  | _=>.fail
 | _=>.fail
def uI (d:TypeDesc) (n:Int) (closed:Bool):C (AV D.E):=match d with
 | .int k=>bif closed then(az (cN (Fb k (qV k n))) λv=>.ret (vA v)) else .ret (.int k (vz k n))
 | .string=>.ret (.str (Utf8.encode n).data.toList)
 | _=>.fail
def Fj (s:St D.E) (d a:TypeDesc) (x:AV D.E):C (AV D.E×St D.E):=az (tp d) λe=>match a with
  | .string=>az (ud P e) λb=>bB (dU8 b) (az (qh P D cd e) λc=>bB (Nat.beq c D.bc) (az (aU D s D.bc x) λxs=>.ret (.str (D.x9 xs),s)))
  | _=>.fail
def Ws (s:St D.E) (src dst:TypeId) (f c:TypeDesc) (b k:Nat) (n:Int):C (AV D.E×St D.E):=az (tp f) λ_=>az (tp c) λe=>bB (Nat.beq src dst) (bB (Nat.beq k (nat_lit 1)) (az (ud P e) λd=>bB (dU8 d) (az (j8 s b) λa=>bE a.ro .fail (ask (ay (.ofNat (nat_lit 0)) n) (.ret (.own b k n,s))))))
def OD (mu:Bool) (s:St D.E) (src dst:TypeId) (x:AV D.E):C (AV D.E×St D.E):=az (ud P src) λd=>az (ud P dst) λa=>match x with
 | .int _ n=>az (uI D a n false) λv=>.ret (v,s)
 | .num _ n=>az (uI D a n true) λv=>.ret (v,s)
 | .str b=>bB (QbV d) (match a with
  | .string=>.ret (.str b,s)
  | .slice e=>az (ud P e) λf=>bB (dU8 f) (az (qh P D cd e) λc=>az (gi c D.bc (D.ofB b)) λxs=>newRow D mu s c xs e)
  | _=>.fail)
 | .own b k n=>bE (ϭ a) (Ws P D s src dst d a b k n) (Fj P D cd s d a (.own b k n))
 | x=>Fj P D cd s d a x
def IJ (t:TypeId) (x:AV D.E):C (AV D.E):=az (ud P t) λd=>match d with
 | .interface _=>.fail
 | _=>.ret (.iface t x)
def tq (t:TypeId) (x:AV D.E) (f:Nat):C (AV D.E):=az (ud P t) λd=>az (ID d) λa=>az (cN (gn a f)) λfd=>az (sz P fd.type) λk=>bB (Nat.ble (nat_lit 1) k) (match x with
 | .ptr b o=>.ret (.ptr b (Nat.add o fd.offset))
 | .j7 b o=>.ret (.j7 b (Nat.add o fd.offset))
 | .lL b n i j=>.ret (.lL b n i (Nat.add j fd.offset))
 | .mP c y j=>.ret (.mP c y (Nat.add j fd.offset))
 | _=>.fail)
def IK (t:TypeId) (x:AV D.E) (f:Nat):C (AV D.E):=az (ud P t) λd=>az (ID d) λa=>az (asAgg x) λcs=>az (cN (gn a f)) λfd=>jD P D fd.type cs fd.offset
def yR (t:TypeId) (x i:AV D.E):C (AV D.E):=az (ud P t) λd=>match d with
 | .slice e=>az (sz P e) λk=>aL (cA i) λ_ i=>match x with
  | .list c xs=>bB (Nat.beq k (D.size c)) (ask (aH zI i) (ask (ay i (ag xs)) (.ret (.mP c (gt (D.Wn c) xs i.toNat) (nat_lit 0)))))
  | .grow c xs _=>bB (Nat.beq k (D.size c)) (ask (aH zI i) (ask (ay i (ag xs)) (.ret (.mP c (gt (D.Wn c) xs i.toNat) (nat_lit 0)))))
  | .own b a n=>bB (Nat.beq a k) <| ask (aH zI i) (ask (ay i n) (.ret (.lL b k i.toNat (nat_lit 0))))
  | .pre b a n=>bB (Nat.beq a k) <| ask (aH zI i) (ask (ay i n) (.ret (.lL b k i.toNat (nat_lit 0))))
  | .part b a o n=>bB (Nat.beq a k) <| ask (aH zI i) (ask (ay i n) (.ret (.lL b k (o+i).toNat (nat_lit 0))))
  | _=>.fail
 | .array len e=>az (sz P e) λk=>bB (Nat.ble (nat_lit 1) k) (az (asN i) λi=>bB (Nat.ble (Nat.succ i) len) (match x with
  | .ptr b o=>.ret (.ptr b (Nat.add o (Nat.mul i k)))
  | .lL b n m j=>.ret (.lL b n m (Nat.add j (Nat.mul i k)))
  | .mP c y j=>.ret (.mP c y (Nat.add j (Nat.mul i k)))
  | _=>.fail))
 | _=>.fail
def IL (t:TypeId) (x i:AV D.E):C (AV D.E):=az (ud P t) λd=>match d with
 | .string=>aL (cA i) λ_ i=>az (gz x) λl=>ask (aH zI i) (ask (ay i (dL l)) (.ret (.int .u8 (sat l i))))
 | .array len e=>az (sz P e) λk=>az (asN i) λi=>az (asAgg x) λcs=>bB (Nat.ble (Nat.succ i) len) (jD P D e cs (Nat.mul i k))
 | _=>.fail
def yS (x:AV D.E) (i:Nat):C (AV D.E):=az (Oq x) λl=>cN (gn l i)
def uJ (s:St D.E) (b:Nat) (o n:Int) (k:Nat) (z:List (AV D.E)):C (AV D.E×St D.E):=az (j8 s b) λa=>match a with
 | ⟨c,xs,d,ro⟩=>bB (Nat.beq (jM z) (D.size c)) (bB (Nat.beq k (D.size c)) (az (qi D c z) λy=>Bool.rec (motive:=λ_=>C (AV D.E×St D.E)) (az (s.set b (some (.arr c (Cq xs o n (kO n y)) d false))) λs=>.ret (undef,s)) .fail ro))
def IM (s:St D.E) (t:TypeId) (x:AV D.E):C (AV D.E×St D.E):=az (ud P t) λd=>az (tp d) λe=>az (zeroOf P D e) λz=>az (sz P e) λk=>match x with
 | .own b _ n=>uJ D s b zI n k (c_ z)
 | .pre b _ n=>uJ D s b zI n k (c_ z)
 | .part b _ o n=>uJ D s b o n k (c_ z)
 | .dd=>.ret (undef,s)
 | _=>.fail
def n_ (mn:Bool) (e:List (AV D.E)):AV D.E->C (AV D.E):=
 List.rec (motive:=λ_=>AV D.E->C (AV D.E)) (λv=>.ret v) (λy _ c x=>aL (cA x) λk a=>aL (cA y) λd b=>bB (AI k d) (c (.int k (bif mn then fK a b else imax a b)))) e
def hU (s:St D.E) (x:C (AV D.E)):C (AV D.E×St D.E):=az x λv=>.ret (v,s)
def QeH (x:C (St D.E)):C (AV D.E×St D.E):=az x λs=>.ret (undef,s)
def settle (v:AV D.E):C (AV D.E):=match v with
 | .bool b=>.split b (.ret (.lit true)) (.ret (.lit false))
 | v=>.ret v
def vD (v:AV D.E):C Bool:=match v with
 | .lit b=>.ret b
 | .bool b=>.split b (.ret true) (.ret false)
 | _=>.fail
def QbY (c a b:AV D.E):C (AV D.E):=az (vD D c) λc=>bE c (.ret a) (.ret b)
def OE (s:St D.E) (e:TypeId) (cs:List (AV D.E)):C (AV D.E×St D.E):=bB (je one cs) (aL (s.new (.cells cs e false)) λb s=>.ret (.ptr b (nat_lit 0),s))
end
abbrev tr (E:Nat->Type):=FuncId->List (AV E)->St E->C (AV E×St E)
def V7 {E:Nat->Type}:tr E:=λ_ _ _=>.fail
section
variable (P:Program) (D:Data) (cd:TypeId->Option Nat)
def jW (mu:Bool) (b:Builtin) (s:St D.E) (c:List TypeId) (a:List (AV D.E)):C (AV D.E×St D.E):=match b with
 | .append=>az (cN (gn c (nat_lit 0))) λt=>az (cN (gn c (nat_lit 1))) λu=>az (cN (gn a (nat_lit 0))) λd=>az (cN (gn a (nat_lit 1))) λx=>IG P D cd mu s t u d x
 | .copy=>az (cN (gn c (nat_lit 0))) λt=>az (cN (gn a (nat_lit 0))) λd=>az (cN (gn a (nat_lit 1))) λx=>ϰ P D cd s t d x
 | .len=>az (cN (gn c (nat_lit 0))) λt=>az (cN (gn a (nat_lit 0))) λx=>hU D s (QeC P D t x)
 | .min=>az (cN (gn a (nat_lit 0))) λx=>hU D s (n_ D true (nI (nat_lit 1) a) x)
 | .max=>az (cN (gn a (nat_lit 0))) λx=>hU D s (n_ D false (nI (nat_lit 1) a) x)
 | .clear=>az (cN (gn c (nat_lit 0))) λt=>az (cN (gn a (nat_lit 0))) λx=>IM P D s t x
 | _=>.fail
def QeI (v:AV D.E):C (FuncId×List (AV D.E)×List (AV D.E)):=match v with
 | .func fn first captured=>match fn with
  | .func f=>.ret (f,first,captured)
  | _=>.fail
 | _=>.fail
def ϲ (φ:T (AV D.E)) (x:Operand) (c:Call):C (FuncId×List (AV D.E)):=az (ev P D φ x) λv=>aL (QeI D v) λf p=>az (Ot P D φ c.args.toList) λargs=>match p with
 | (a,cs)=>.ret (f,mN a (mN args cs))
def QeJ (mu:Bool) (c:Callee) (ex:tr D.E) (s:St D.E) (φ:T (AV D.E)) (cl:Call):C (AV D.E×St D.E):=match c with
 | .value x=>aL (ϲ P D φ x cl) λf args=>ex f args s
 | .builtin b=>az (Ot P D φ cl.args.toList) λa=>jW P D cd mu b s cl.argTypes.toList a
 | _=>.fail
def OF (mu:Bool) (op:Op) (ex:tr D.E) (s:St D.E) (φ:T (AV D.E)):C (AV D.E×St D.E):=match op with
 | .move x=>hU D s (ev P D φ x)
 | .assign x=>hU D s (ev P D φ x)
 | .pick c a b=>az (ev P D φ c) λc=>az (ev P D φ a) λa=>az (ev P D φ b) λb=>hU D s (QbY D c a b)
 | .alloc e=>az (zeroOf P D e) λz=>OE D s e (c_ z)
 | .box e x=>az (ev P D φ x) λv=>OE D s e (c_ v)
 | .build t parts=>hU D s (II P D φ t parts.toList)
 | .buildSlice t len parts=>yQ P D cd mu s φ t len parts.toList
 | .load t a=>az (ev P D φ a) λv=>hU D s (Cr P D s t v)
 | .store t a x=>az (ev P D φ a) λa=>az (ev P D φ x) λx=>QeH D (IE P D s t a x)
 | .nilCheck x=>az (ev P D φ x) λv=>hU D s (OC D v)
 | .binOp op t d g _=>az (ev P D φ d) λx=>az (ev P D φ g) λy=>hU D s (QeA P D op t d g x y)
 | .unOp op _ x=>az (ev P D φ x) λx=>hU D s (unA D op x)
 | .convert a b x=>az (ev P D φ x) λx=>OD P D cd mu s a b x
 | .makeInterface t x=>az (ev P D φ x) λx=>hU D s (IJ P D t x)
 | .makeFunc fn first captured=>az (Ot P D φ first.toList) λf=>az (Ot P D φ captured.toList) λc=>.ret (.func fn f c,s)
 | .makeSlice t l c=>az (ev P D φ l) λl=>az (ev P D φ c) λc=>Cu P D cd mu s t l c
 | .slice t x lo hi mx=>az (ev P D φ x) λx=>az (evO P D φ lo) λlo=>az (evO P D φ hi) λhi=>az (evO P D φ mx) λmx=>hU D s (OA P D t x lo hi mx)
 | .fieldAddr t x f=>az (ev P D φ x) λx=>hU D s (tq P D t x f)
 | .field t x f=>az (ev P D φ x) λx=>hU D s (IK P D t x f)
 | .indexAddr t x i=>az (ev P D φ x) λx=>az (ev P D φ i) λi=>hU D s (yR P D t x i)
 | .index t x i=>az (ev P D φ x) λx=>az (ev P D φ i) λi=>hU D s (IL P D t x i)
 | .extract t i=>az (ev P D φ t) λx=>hU D s (yS D x i)
 | .call c=>QeJ P D cd mu c.callee ex s φ c
 | _=>.fail
end
def QbZ (d:TypeDesc):Option TypeId:=match d with
 | .slice e=>some e
 | _=>none
def QeK (d:TypeDesc):Option (TypeId×TypeId):=match d with
 | .map k v=>some (k,v)
 | _=>none
section
variable (P:Program)
def QeL (b:Builtin) (a:List TypeId):Nat:=match b with
 | .len=>match a with
  | t::_=>Option.rec (motive:=λ_=>Nat) (nat_lit 3) (λd=>Option.rec (motive:=λ_=>Nat) (nat_lit 1) (λ_=>nat_lit 2) (QeK d)) (P.underlying t)
  | []=>nat_lit 3
 | .min=>nat_lit 1
 | .max=>nat_lit 1
 | _=>nat_lit 3
def hV (o:Oper):Nat:=match o.op with
 | .move _=>nat_lit 1
 | .assign _=>nat_lit 1
 | .pick _ _ _=>nat_lit 1
 | .alloc _=>nat_lit 1
 | .box _ _=>nat_lit 1
 | .build _ _=>nat_lit 1
 | .buildSlice _ _ _=>nat_lit 1
 | .nilCheck _=>nat_lit 1
 | .binOp _ _ _ _ _=>nat_lit 1
 | .unOp _ _ _=>nat_lit 1
 | .makeInterface _ _=>nat_lit 1
 | .makeFunc _ _ _=>nat_lit 1
 | .makeMap _ _=>nat_lit 1
 | .makeSlice _ _ _=>nat_lit 1
 | .slice _ _ _ _ _=>nat_lit 1
 | .fieldAddr _ _ _=>nat_lit 1
 | .field _ _ _=>nat_lit 1
 | .indexAddr _ _ _=>nat_lit 1
 | .index _ _ _=>nat_lit 1
 | .extract _ _=>nat_lit 1
 | .load _ _=>nat_lit 2
 | .lookup _ _ _ _=>nat_lit 2
 | .convert src _ _=>Option.rec (motive:=λ_=>Nat) (nat_lit 3) (λd=>Option.rec (motive:=λ_=>Nat) (nat_lit 1) (λ_=>nat_lit 2) (QbZ d)) (P.underlying src)
 | .call c=>match c.callee with
  | .builtin b=>QeL P b c.argTypes.toList
  | _=>nat_lit 3
 | _=>nat_lit 3
def vE (ms:List Nat) (es:List Edge):Nat->Option Nat:=
 List.rec (motive:=λ_=>Nat->Option Nat) (λm=>some m)
  (λe _ a m=>oE (Region.binds .any e) (oB (gn ms e.on) λk=>a (Nat.lor (Nat.lor m (Nat.pow (nat_lit 2) e.on)) k)) (a m)) es
def IN (os:List Oper):List Nat->Option (List Nat):=
 List.rec (motive:=λ_=>List Nat->Option (List Nat)) (λms=>some ms)
  (λo _ a ms=>oB (vE ms o.after.toList (nat_lit 0)) λm=>a (mN ms [m])) os
def jE (ms:List Nat) (i j:Nat):Bool:=Option.rec (motive:=λ_=>Bool) false (λm=>Nat.beq (Nat.mod (Nat.div m (Nat.pow (nat_lit 2) i)) (nat_lit 2)) (nat_lit 1)) (gn ms j)
def AQ (d:Nat) (x:Operand):Bool:=match x with
 | .tmp t=>Nat.beq t d
 | _=>false
def AR (ops:List Oper) (o:Oper):Option Tmp:=oB o.guard λp=>oB (gn ops p.1) λx=>x.dst
def reads (ops:List Oper) (o:Oper) (d:Nat):Bool:=Bool.or (AK (AQ d) o.op.operands.toList) (Option.rec (motive:=λ_=>Bool) false (λt=>Nat.beq t d) (AR ops o))
def ordered (ms:List Nat) (i j:Nat):Bool:=Bool.or (jE ms i j) (jE ms j i)
def OG (ops:List Oper) (ms:List Nat) (i j:Nat) (a b:Oper):Bool:=
 Bool.or (Nat.beq i j) (Bool.and (Option.rec (motive:=λ_=>Bool) true (λd=>Bool.and (Bool.or (ordered ms i j) (Bool.not (reads ops a d))) (Option.rec (motive:=λ_=>Bool) true (λe=>Bool.not (Nat.beq d e)) a.dst)) b.dst)
  (Bool.or (Bool.not (Bool.and (Nat.beq (hV P a) (nat_lit 3)) (Nat.beq (hV P b) (nat_lit 3)))) (ordered ms i j)))
def IP {α:Type} (f:Nat->α->Bool) (l:List α):Nat->Bool:=
 List.rec (motive:=λ_=>Nat->Bool) (λ_=>true) (λa _ b i=>Bool.rec (motive:=λ_=>Bool) false (b (Nat.succ i)) (f i a)) l
def OH (o:Oper):Bool:=match o.op with
 | .select _ _=>false
 | _=>true
def AS (ms:List Nat) (i:Nat) (o:Oper):Bool:=Option.rec (motive:=λ_=>Bool) true (λp=>jE ms p.1 i) o.guard
def Cv (ops:List Oper):Option (List Nat):=oB (IN ops []) λms=>
 oI (IP (λi a=>Bool.and (Bool.and (OH a) (AS ms i a)) (IP (λj b=>OG P ops ms i j a b) ops (nat_lit 0))) ops (nat_lit 0)) (some ms)
end
section
variable {E:Nat->Type}
def eC:C Unit:=.ret ()
def vF (b:Bool):C Unit:=bB b eC
def Wt (a b:Fn):Bool:=match a with
 | .func f=>match b with
  | .func g=>Nat.beq f g
  | _=>false
 | _=>false
def vG (x y:AV E):C Unit:=match x with
 | .bool a=>aL (x_ y) λb _=>.eN (a=b) eC
 | .lit a=>match y with
  | .lit b=>vF (Bool.rec (motive:=λ_=>Bool) (Bool.not b) b a)
  | .bool b=>.eN (a=b) eC
  | _=>.fail
 | .int k a=>aL (cA y) λf b=>bB (AI k f) (.eN (a=b) eC)
 | .num k a=>match y with
  | .num f b=>bB (AI k f) (vF (V6 a b))
  | .int f b=>bB (AI k f) (.eN (a=b) eC)
  | _=>.fail
 | .str a=>az (gz y) λb=>.eN (a=b) eC
 | .gy=>match y with
  | .gy=>eC
  | _=>.fail
 | .ptr b o=>match y with
  | .ptr d h=>vF (Bool.and (Nat.beq b d) (Nat.beq o h))
  | _=>.fail
 | .j7 b o=>match y with
  | .j7 d h=>vF (Bool.and (Nat.beq b d) (Nat.beq o h))
  | _=>.fail
 | .lL b k i j=>match y with
  | .lL d f q m=>bB (Bool.and (Nat.beq b d) (Bool.and (Nat.beq k f) (Nat.beq j m))) (.eN (i=q) eC)
  | _=>.fail
 | .mP c x j=>match y with
  | .mP l p m=>bB (Nat.beq j m) (az (IC c l p) λp=>.eN (x=p) eC)
  | _=>.fail
 | .dd=>match y with
  | .dd=>eC
  | _=>.fail
 | .own b k n=>match y with
  | .own d f g=>bB (Bool.and (Nat.beq b d) (Nat.beq k f)) (.eN (n=g) eC)
  | _=>.fail
 | .pre b k n=>match y with
  | .pre d f g=>bB (Bool.and (Nat.beq b d) (Nat.beq k f)) (.eN (n=g) eC)
  | _=>.fail
 | .part b k o n=>match y with
  | .part d f h g=>bB (Bool.and (Nat.beq b d) (Nat.beq k f)) (.eN (o=h) (.eN (n=g) eC))
  | _=>.fail
 | .grow c xs b=>match y with
  | .grow l e d=>bB (Nat.beq b d) (az (gi c l e) λe=>.eN (xs=e) eC)
  | _=>.fail
 | .sub b o n=>match y with
  | .sub d h g=>vF (Bool.and (Nat.beq b d) (Bool.and (Nat.beq o h) (Nat.beq n g)))
  | _=>.fail
 | .list c xs=>match y with
  | .list l e=>az (gi c l e) λe=>.eN (xs=e) eC
  | _=>.fail
 | .pP=>match y with
  | .pP=>eC
  | _=>.fail
 | .map a=>match y with
  | .map b=>vF (Nat.beq a b)
  | _=>.fail
 | .nilFunc=>match y with
  | .nilFunc=>eC
  | _=>.fail
 | .nilIface=>match y with
  | .nilIface=>eC
  | _=>.fail
 | _=>.fail
def yT (xs:List (AV E)):List (AV E)->C Unit:=
 List.rec (motive:=λ_=>List (AV E)->C Unit) (λa=>List.rec (motive:=λ_=>C Unit) eC (λ_ _ _=>.fail) a)
  (λx _ b a=>List.rec (motive:=λ_=>C Unit) .fail (λy a _=>az (vG x y) λ_=>b a) a) xs
def OI (x y:AV E):C Unit:=match x with
 | .agg xs=>match y with
  | .agg a=>yT xs a
  | _=>.fail
 | .tuple xs=>match y with
  | .tuple a=>yT xs a
  | _=>.fail
 | .func f xs a=>match y with
  | .func g b c=>bB (Wt f g) (az (yT xs b) λ_=>yT a c)
  | _=>.fail
 | x=>vG x y
end
section
variable (P:Program) (D:Data) (cd:TypeId->Option Nat)
def guards (ops:List Oper) (i:Nat):Bool:=AK (λo=>Option.rec (motive:=λ_=>Bool) false (λp=>Nat.beq p.1 i) o.guard) ops
def yA (ops:List Oper) (φ:T (AV D.E)) (j:Nat):Option (AV D.E):=oB (gn ops j) λo=>oB o.dst λt=>φ.get t
def IQ (w:Bool) (v:AV D.E):C Bool:=match v with
 | .lit b=>.ret (Bool.rec (motive:=λ_=>Bool) (Bool.not w) w b)
 | .bool b=>.split b (.ret w) (.ret (Bool.not w))
 | _=>.ret false
def lO (ops:List Oper) (φ:T (AV D.E)) (o:Oper):C Bool:=match o.guard with
 | none=>.ret true
 | some p=>match p with
  | (j,w)=>az (cN (yA D ops φ j)) λv=>IQ D w v
def vH (N:Nat) (φ:T (AV D.E)) (d:Option Tmp) (v:AV D.E):C (T (AV D.E)):=
 Option.rec (motive:=λ_=>C (T (AV D.E))) (.ret φ) (λt=>bB (Nat.ble (Nat.succ t) N) (cN (φ.put t (some v)))) d
def Fl:Bool:=Option.isSome (cd (nat_lit 4000000000))
def clo (v:AV D.E):AV D.E:=match v with
 | .bool b=>.lit (Bool.rec (motive:=λ_=>Bool) false true b)
 | .int k n=>Option.rec (motive:=λ_=>AV D.E) (.num k n) (λc=>vA c) (Fb k n)
 | .num k n=>Option.rec (motive:=λ_=>AV D.E) (.num k n) (λc=>vA c) (Fb k n)
 | v=>v
def IS (mu:Bool) (g:Bool) (op:Op) (ex:tr D.E) (s:St D.E) (φ:T (AV D.E)):C (AV D.E×St D.E):=
 bif Fl cd then aL (knw (OF P D cd mu op ex s φ)) (λv s=>.ret (clo D v,s)) else bif g then aL (OF P D cd mu op ex s φ) (λv s=>az (settle D v) λv=>.ret (v,s)) else OF P D cd mu op ex s φ
def qj (mu:Bool) (ex:tr D.E) (ops:List Oper) (N:Nat) (l:List Oper):Nat->St D.E->T (AV D.E)->C (St D.E×T (AV D.E)):=
 List.rec (motive:=λ_=>Nat->St D.E->T (AV D.E)->C (St D.E×T (AV D.E))) (λ_ s φ=>.ret (s,φ))
  (λo _ a i s φ=>az (lO D ops φ o) λb=>bE b
   (aL (IS P D cd mu (guards ops i) o.op ex s φ) λv c=>az (vH D N φ o.dst v) λφ=>bB (Nat.ble s.nx c.nx) (a (Nat.succ i) c φ))
   (az (vH D N φ o.dst undef) λφ=>a (Nat.succ i) s φ)) l
structure Rc where
 o:Oper
 g:Bool
 cls:Nat
 v:AV D.E
 φ:T (AV D.E)
 lo:Nat
 hi:Nat
 pc:T (AO D.E)
def piece (r:Rc D):Bool:=Bool.and (Nat.beq r.cls (nat_lit 1)) (Nat.ble (Nat.succ r.lo) r.hi)
def j9 (qS:Nat->Bool) (rs:List (Rc D)):Nat->T (AO D.E)->C (T (AO D.E)):=
 List.rec (motive:=λ_=>Nat->T (AO D.E)->C (T (AO D.E))) (λ_ h=>.ret h)
  (λr _ a j h=>bE (Bool.and (piece D r) (qS j)) (az (cN (r.pc.get r.lo)) λo=>az (cN (h.put r.lo (some o))) λh=>a (Nat.succ j) h) (a (Nat.succ j) h)) rs
def loadAt (g:Bool) (φ:T (AV D.E)) (o:Oper) (qS:Nat->Bool) (rs:List (Rc D)) (h:T (AO D.E)):C (AV D.E):=
 az (j9 D qS rs (nat_lit 0) h) λk=>aL (IS P D cd false g o.op V7 ⟨k,nat_lit 0⟩ φ) λv _=>.ret v
def OJ (x:Operand):Option Tmp:=match x with
 | .tmp t=>some t
 | _=>none
def yU (φ:T (AV D.E)) (c:List (Option Tmp)):T (AV D.E)->C (T (AV D.E)):=
 List.rec (motive:=λ_=>T (AV D.E)->C (T (AV D.E))) (λa=>.ret a)
  (λx _ b a=>Option.rec (motive:=λ_=>C (T (AV D.E))) (b a) (λt=>Option.rec (motive:=λ_=>C (T (AV D.E))) (b a) (λv=>az (cN (a.put t (some v))) λa=>b a) (φ.get t)) x) c
def o_ (ops:List Oper) (o:Oper):List (Option Tmp):=AR ops o::ss OJ o.op.operands.toList
structure Ds where
 φ:T (AV D.E)
 h:T (AO D.E)
 hs:List (T (AO D.E))
 nx:Nat
 last:Nat
 es:List Nat
 rs:List (Rc D)
def b6 (ms:List Nat) (last j:Nat):Bool:=Nat.rec (motive:=λ_=>Bool) true (λe _=>Bool.not (jE ms j e)) last
def OK (mu:Bool) (N:Nat) (g:Bool) (o:Oper) (a:T (AV D.E)) (d:Ds D):C (Ds D):=aL (IS P D cd mu g o.op V7 ⟨.nil,d.nx⟩ a) λv s=>az (vH D N d.φ o.dst v) λφ=>bB (Bool.and (Nat.ble d.nx s.nx) (Nat.ble s.nx (Nat.succ d.nx)))
 (.ret ⟨φ,d.h,d.hs,s.nx,d.last,d.es,mN d.rs [⟨o,g,nat_lit 1,v,a,d.nx,s.nx,s.h⟩]⟩)
def OL (N:Nat) (ms:List Nat) (i:Nat) (g:Bool) (o:Oper) (a:T (AV D.E)) (d:Ds D):C (Ds D):=az (loadAt P D cd g a o (λj=>Bool.and (jE ms j i) (b6 ms d.last j)) d.rs d.h) λv=>az (vH D N d.φ o.dst v) λφ=>
 .ret ⟨φ,d.h,d.hs,d.nx,d.last,d.es,mN d.rs [⟨o,g,nat_lit 2,v,a,d.nx,d.nx,.nil⟩]⟩
def Wu (mu:Bool) (ex:tr D.E) (N:Nat) (ms:List Nat) (i:Nat) (g:Bool) (o:Oper) (a:T (AV D.E)) (d:Ds D):C (Ds D):=bB (Nat.beq (hV P o) (nat_lit 3)) (az (j9 D (λj=>Bool.and (jE ms j i) (b6 ms d.last j)) d.rs (nat_lit 0) d.h) λk=>
 aL (IS P D cd mu g o.op ex ⟨k,d.nx⟩ a) λv s=>az (vH D N d.φ o.dst v) λφ=>bB (Nat.ble d.nx s.nx) (.ret ⟨φ,s.h,mN d.hs [s.h],s.nx,Nat.succ i,mN d.es [i],mN d.rs [⟨o,g,nat_lit 3,v,a,d.nx,s.nx,.nil⟩]⟩))
def OM (N:Nat) (g:Bool) (o:Oper) (a:T (AV D.E)) (d:Ds D):C (Ds D):=az (vH D N d.φ o.dst undef) λφ=>.ret ⟨φ,d.h,d.hs,d.nx,d.last,d.es,mN d.rs [⟨o,g,nat_lit 0,undef,a,d.nx,d.nx,.nil⟩]⟩
def AT (mu:Bool) (ex:tr D.E) (ops:List Oper) (N:Nat) (ms:List Nat) (i:Nat) (o:Oper) (d:Ds D):C (Ds D):=az (yU D d.φ (o_ ops o) .nil) λa=>az (lO D ops a o) λb=>bE b
 (bE (Nat.beq (hV P o) (nat_lit 1)) (OK P D cd mu N (guards ops i) o a d) (bE (Nat.beq (hV P o) (nat_lit 2)) (OL P D cd N ms i (guards ops i) o a d) (Wu P D cd mu ex N ms i (guards ops i) o a d)))
 (OM D N (guards ops i) o a d)
def AU (mu:Bool) (ex:tr D.E) (ops:List Oper) (N:Nat) (ms:List Nat) (l:List Oper):Nat->Ds D->C (Ds D):=
 List.rec (motive:=λ_=>Nat->Ds D->C (Ds D)) (λ_ d=>.ret d) (λo _ a i d=>az (AT P D cd mu ex ops N ms i o d) λd=>a (Nat.succ i) d) l
def AW (ms:List Nat) (rs:List (Rc D)) (i last:Nat) (r:Rc D) (h:T (AO D.E)):C Unit:=az (loadAt P D cd r.g r.φ r.o (λj=>Bool.and (jE ms j i) (b6 ms last j)) rs h) λv=>OI v r.v
def oc (ms:List Nat) (i last:Nat) (es:List Nat):Bool:=Bool.and (b6 ms last i) (List.rec (motive:=λ_=>Bool) true (λe _ _=>Bool.not (jE ms e i)) es)
def jN (ms:List Nat) (rs:List (Rc D)) (i:Nat) (r:Rc D) (hs:List (T (AO D.E))):Nat->List Nat->C Unit:=
 List.rec (motive:=λ_=>Nat->List Nat->C Unit) (λ_ _=>eC)
  (λh _ a last es=>az (bE (oc ms i last es) (AW P D cd ms rs i last r h) eC) λ_=>List.rec (motive:=λ_=>C Unit) eC (λe es _=>a (Nat.succ e) es) es) hs
def Fp (ms:List Nat) (all:List (Rc D)) (hs:List (T (AO D.E))) (es:List Nat) (l:List (Rc D)):Nat->C Unit:=
 List.rec (motive:=λ_=>Nat->C Unit) (λ_=>eC) (λr _ a i=>az (bE (Nat.beq r.cls (nat_lit 2)) (jN P D cd ms all i r hs (nat_lit 0) es) eC) λ_=>a (Nat.succ i)) l
def Cw (mu:Bool) (ex:tr D.E) (ops:List Oper) (N:Nat) (s:St D.E) (φ:T (AV D.E)):C (St D.E×T (AV D.E)):=az (cN (Cv P ops)) λms=>az (AU P D cd mu ex ops N ms ops (nat_lit 0) ⟨φ,s.h,[s.h],s.nx,nat_lit 0,[],[]⟩) λd=>
 az (Fp P D cd ms d.rs d.hs d.es d.rs (nat_lit 0)) λ_=>
  az (j9 D (b6 ms d.last) d.rs (nat_lit 0) d.h) λh=>.ret (⟨h,d.nx⟩,d.φ)
end
abbrev Ren:=List (Nat×Nat)
def dN (r:Ren) (t:Nat):Option Nat:=List.rec (motive:=λ_=>Option Nat) none (λp _ a=>bif Nat.beq p.1 t then some p.2 else a) r
def yj (r:Ren) (b:Nat):Bool:=AK (λp=>Nat.beq p.2 b) r
def cq.{u} {α:Type u} (l:List (Nat×α)) (t:Nat):Option α:=List.rec (motive:=λ_=>Option α) none (λp _ a=>bif Nat.beq p.1 t then some p.2 else a) l
structure Mt (E:Nat->Type) where
 s:St E
 r:Ren
 todo:Ren
section
variable (D:Data)
def pair (m:Mt D.E) (t b:Nat):C (Mt D.E):=Option.rec (motive:=λ_=>C (Mt D.E)) (bE (yj m.r b) .fail (.ret ⟨m.s,(t,b)::m.r,(t,b)::m.todo⟩)) (λa=>bB (Nat.beq a b) (.ret m)) (dN m.r t)
def IT (m:Mt D.E) (t b:Nat):C (Mt D.E):=bE (yj m.r b) .fail (pair D m t b)
def qY (m:Mt D.E) (b:Nat):C (Ar D.E×Mt D.E):=bE (yj m.r b) .fail (az (j8 m.s b) λa=>az (m.s.set b (some (.arr a.c a.xs a.e true))) λs=>.ret (a,⟨s,m.r,m.todo⟩))
def ON (m:Mt D.E) (a:AV D.E) (c:Nat) (d:List (D.E c)):C (Mt D.E):=match a with
 | .list e xs=>az (gi c e xs) λxs=>.eN (xs=d) (.ret m)
 | .grow e xs _=>az (gi c e xs) λxs=>.eN (xs=d) (.ret m)
 | .dd=>.eN ([]=d) (.ret m)
 | .own b _ _=>aL (qY D m b) λa m=>az (gi c a.c a.xs) λxs=>.eN (xs=d) (.ret m)
 | .pre b _ n=>aL (qY D m b) λa m=>az (gi c a.c a.xs) λxs=>.eN (dj xs n=d) (.ret m)
 | .part b _ o n=>aL (qY D m b) λa m=>az (gi c a.c a.xs) λxs=>.eN (qX xs o n=d) (.ret m)
 | _=>.fail
def ϳ (th:List (Nat×AO D.E)) (m:Mt D.E) (a k:Nat) (n:Int):C (Mt D.E):=az (cN (cq th a)) λo=>match o with
 | .arr c _ e _=>bB (Nat.beq (D.size c) k) (aL (m.s.new (.arr c [] e false)) λb s=>.eN (.ofNat (nat_lit 0)=n) (IT D ⟨s,m.r,m.todo⟩ a b))
 | _=>.fail
def ϵ (th:List (Nat×AO D.E)) (m:Mt D.E) (a:Nat) (c:Nat) (d:List (D.E c)):C (Mt D.E):=az (cN (cq th a)) λo=>match o with
 | .tok c2 e=>aL (m.s.new (.tok c2 e)) λb s=>.eN ([]=d) (IT D ⟨s,m.r,m.todo⟩ a b)
 | _=>.fail
def Qb0 (m:Mt D.E) (b f:Nat) (d:Int) (g k:Nat) (n:Int):C (Mt D.E):=bE (yj m.r b) .fail (bB (Nat.beq f k) (az (j8 m.s b) λa=>bE a.ro .fail
 (az (m.s.set b none) λs=>aL (s.new (.arr a.c (dj a.xs d) a.e false)) λb s=>.eN (d=n) (IT D ⟨s,m.r,m.todo⟩ g b))))
def Qb1 (m:Mt D.E) (a:AV D.E) (c:Nat) (y:D.E c) (j:Nat):C (Mt D.E):=match a with
 | .mP f x d=>bB (Nat.beq d j) (az (IC c f x) λx=>.eN (x=y) (.ret m))
 | .lL b _ i d=>bB (Nat.beq d j) (aL (qY D m b) λa m=>az (gi c a.c a.xs) λxs=>.eN (gt (D.Wn c) xs i=y) (.ret m))
 | .ptr b o=>bB (Bool.and (Nat.beq o (nat_lit 0)) (Nat.beq j (nat_lit 0))) (bE (yj m.r b) .fail (aL (QbU m.s b) λcs e=>az (qi D c cs) λx=>az (m.s.set b (some (.cells cs e true))) λs=>.eN (x=y) (.ret ⟨s,m.r,m.todo⟩)))
 | _=>.fail
def m0 (th:List (Nat×AO D.E)) (m:Mt D.E) (a t:AV D.E):C (Mt D.E):=match t with
 | .list c h=>ON D m a c h
 | .grow c h d=>match a with
  | .grow l xs b=>az (gi c l xs) λxs=>.eN (xs=h) (pair D m d b)
  | .dd=>ϵ D th m d c h
  | _=>.fail
 | .own d k n=>match a with
  | .own b e f=>bB (Nat.beq e k) (.eN (f=n) (pair D m d b))
  | .pre b e f=>Qb0 D m b e f d k n
  | .dd=>ϳ D th m d k n
  | _=>.fail
 | .pre d k n=>match a with
  | .pre b e f=>bB (Nat.beq e k) (.eN (f=n) (pair D m d b))
  | .own b e f=>bB (Nat.beq e k) (.eN (f=n) (pair D m d b))
  | _=>.fail
 | .part d k o n=>match a with
  | .part b e g f=>bB (Nat.beq e k) (.eN (g=o) (.eN (f=n) (pair D m d b)))
  | _=>.fail
 | .ptr d o=>match a with
  | .ptr b g=>bB (Nat.beq g o) (pair D m d b)
  | _=>.fail
 | .lL d k i j=>match a with
  | .lL b e p q=>bB (Bool.and (Nat.beq e k) (Nat.beq q j)) (.eN (p=i) (pair D m d b))
  | _=>.fail
 | .sub d o n=>match a with
  | .sub b g f=>bB (Bool.and (Nat.beq g o) (Nat.beq f n)) (pair D m d b)
  | _=>.fail
 | .mP c y j=>Qb1 D m a c y j
 | .map _=>.fail
 | t=>az (vG a t) λ_=>.ret m
def mL (th:List (Nat×AO D.E)) (Qug:List (AV D.E)):List (AV D.E)->Mt D.E->C (Mt D.E):=
 List.rec (motive:=λ_=>List (AV D.E)->Mt D.E->C (Mt D.E)) (λb m=>List.rec (motive:=λ_=>C (Mt D.E)) (.ret m) (λ_ _ _=>.fail) b)
  (λa _ c b m=>List.rec (motive:=λ_=>C (Mt D.E)) .fail (λt b _=>az (m0 D th m a t) λm=>c b m) b) Qug
def mV (th:List (Nat×AO D.E)) (m:Mt D.E) (a t:AV D.E):C (Mt D.E):=match t with
 | .agg b=>match a with
  | .agg Qug=>mL D th Qug b m
  | _=>.fail
 | .tuple b=>match a with
  | .tuple Qug=>mL D th Qug b m
  | _=>.fail
 | .func g xs i=>match a with
  | .func f c d=>bB (Wt f g) (az (mL D th c xs m) λm=>mL D th d i m)
  | _=>.fail
 | .iface u x=>match a with
  | .iface e h=>bB (Nat.beq e u) (m0 D th m h x)
  | _=>.fail
 | t=>m0 D th m a t
def mVs (th:List (Nat×AO D.E)) (Qug:List (AV D.E)):List (AV D.E)->Mt D.E->C (Mt D.E):=
 List.rec (motive:=λ_=>List (AV D.E)->Mt D.E->C (Mt D.E)) (λb m=>List.rec (motive:=λ_=>C (Mt D.E)) (.ret m) (λ_ _ _=>.fail) b)
  (λa _ c b m=>List.rec (motive:=λ_=>C (Mt D.E)) .fail (λt b _=>az (mV D th m a t) λm=>c b m) b) Qug
def mO (th:List (Nat×AO D.E)) (m:Mt D.E) (a t:AO D.E):C (Mt D.E):=match t with
 | .cells g e ro=>match a with
  | .cells Qug d b=>bB (Bool.and (Nat.beq d e) (Bool.rec (motive:=λ_=>Bool) (Bool.not b) b ro)) (mVs D th Qug g m)
  | _=>.fail
 | .arr c h e ro=>match a with
  | .arr f xs d b=>bB (Bool.and (Nat.beq d e) (Bool.rec (motive:=λ_=>Bool) (Bool.not b) b ro)) (az (gi c f xs) λxs=>.eN (xs=h) (.ret m))
  | _=>.fail
 | .tok c e=>match a with
  | .tok f d=>bB (Bool.and (Nat.beq f c) (Nat.beq d e)) (.ret m)
  | _=>.fail
def OO (th:List (Nat×AO D.E)) (n:Nat):Mt D.E->C (Mt D.E):=
 Nat.rec (motive:=λ_=>Mt D.E->C (Mt D.E)) (λ_=>.fail)
  (λ_ b m=>List.rec (motive:=λ_=>C (Mt D.E)) (.ret m) (λp r _=>az (cN (cq th p.1)) λt=>az (cN (m.s.h.get p.2)) λa=>az (mO D th ⟨m.s,m.r,r⟩ a t) b) m.todo) n
def OP (s:St D.E) (r:Ren) (th:List (Nat×AO D.E)) (Qug a:List (AV D.E)):C (St D.E×Ren):=az (mVs D th Qug a ⟨s,r,r⟩) λm=>az (OO D th (nat_lit 200) m) λm=>
 bB (je (λp=>Option.isSome (dN m.r p.1)) th) (.ret (m.s,m.r))
structure Iv (p:Prop):Prop where
 out:p
structure br where
 f:FuncId
 Y:Type
 ya:List (AV D.E)->St D.E->C Y
 pre:Y->Prop
 args:Y->List (AV D.E)
 heap:Y->List (Nat×AO D.E)
 res:Y->AV D.E
 hZ:Y->List (Nat×AO D.E)
 nY:Nat
 Ci:Nat
def rn (r:Ren) (a nx t:Nat):Nat:=Option.rec (motive:=λ_=>Nat) (Nat.add nx (Nat.sub t a)) (λb=>b) (dN r t)
def AX (f:Nat->Nat) (v:AV D.E):AV D.E:=match v with
 | .ptr b o=>.ptr (f b) o
 | .lL b k i j=>.lL (f b) k i j
 | .own b k n=>.own (f b) k n
 | .pre b k n=>.pre (f b) k n
 | .part b k o n=>.part (f b) k o n
 | .grow c xs b=>.grow c xs (f b)
 | .sub b o n=>.sub (f b) o n
 | .map r=>.map (f r)
 | v=>v
def Ls (f:Nat->Nat) (v:AV D.E):AV D.E:=match v with
 | .agg cs=>.agg (ss (AX D f) cs)
 | .tuple cs=>.tuple (ss (AX D f) cs)
 | .func g xs a=>.func g (ss (AX D f) xs) (ss (AX D f) a)
 | .iface t x=>.iface t (AX D f x)
 | v=>AX D f v
def OQ (f:Nat->Nat) (v:AV D.E):AV D.E:=match v with
 | .tuple cs=>.tuple (ss (Ls D f) cs)
 | v=>Ls D f v
def AY (f:Nat->Nat) (o:AO D.E):AO D.E:=match o with
 | .cells cs e ro=>.cells (ss (Ls D f) cs) e ro
 | o=>o
def V8 (v:AV D.E):Bool:=match v with
 | .agg _=>false
 | .tuple _=>false
 | .func _ _ _=>false
 | .iface _ _=>false
 | _=>true
def okV (v:AV D.E):Bool:=match v with
 | .agg cs=>je (V8 D) cs
 | .tuple cs=>je (V8 D) cs
 | .func _ xs a=>Bool.and (je (V8 D) xs) (je (V8 D) a)
 | .iface _ x=>V8 D x
 | _=>true
def QeN (v:AV D.E):Bool:=match v with
 | .tuple cs=>je (okV D) cs
 | v=>okV D v
def okO (o:AO D.E):Bool:=match o with
 | .cells cs _ _=>je (okV D) cs
 | _=>true
def Qb2 (r:Ren) (l:List (Nat×AO D.E)):T (AO D.E)->C (T (AO D.E)):=List.rec (motive:=λ_=>T (AO D.E)->C (T (AO D.E))) (λh=>.ret h) (λp _ a h=>az (cN (dN r p.1)) λb=>az (cN (h.put b none)) a) l
def inP (f:Nat->Nat) (l:List (Nat×AO D.E)):T (AO D.E)->C (T (AO D.E)):=List.rec (motive:=λ_=>T (AO D.E)->C (T (AO D.E))) (λh=>.ret h) (λp _ a h=>az (a h) λh=>cN (h.put (f p.1) (some (AY D f p.2)))) l
def below (n:Nat) (l:List (Nat×AO D.E)):Bool:=je (λp=>Nat.ble (Nat.succ p.1) n) l
def OS (k:br D) (y:k.Y) (args:List (AV D.E)) (s:St D.E):C (AV D.E×St D.E):=.eN (Iv (k.pre y)) (bB (Bool.and (Bool.and (below D k.nY (k.heap y)) (Nat.ble k.nY k.Ci)) (Bool.and (QeN D (k.res y)) (je (λp=>okO D p.2) (k.hZ y)))) (aL (OP D s [] (k.heap y) args (k.args y)) λa r=>
 az (Qb2 D r (k.heap y) a.h) λb=>az (inP D (rn r k.nY a.nx) (k.hZ y) b) λc=>.ret (OQ D (rn r k.nY a.nx) (k.res y),⟨c,Nat.add a.nx (Nat.sub k.Ci k.nY)⟩)))
def AZ {α:Type} (x:C α):Bool:=C.rec (motive:=λ_=>Bool) (λ_=>false) true (λ_ _ c=>c) (λ_ _ _ a b=>Bool.and a b) (λ_ _ c=>c) x
def Wv (tab:List (br D)):tr D.E:=λf args s=>List.rec (motive:=λ_=>C (AV D.E×St D.E)) .fail
 (λk _ a=>bE (Nat.beq k.f f) (bE (AZ (k.ya args s)) a (az (k.ya args s) λy=>OS D k y args s)) a) tab
inductive Ex where
 | normal
 | exit (id:Nat)
 | ret
inductive Hint where
 | lock (t:Nat)
 | Qb3 (t n:Nat)
 | fact (t:Nat)
 | IU (b o n:Nat)
structure iG where
 X:Type
 aN:List Nat
 sl:X->List (Nat×AV D.E)
 kp:List Nat
 pc:X->List (Nat×AO D.E)
 nx:Nat
 inv:X->Prop
 me:X->Nat
structure QeO where
 K:Type
 L:K->iG D
 E:Option (iG D)
structure cO where
 hs:List (Nat×Hint)
 mu:List Nat
 lp:List (Nat×iG D)
 jn:List (Nat×iG D)
 un:Nat
 kf:List (Nat×QeO D)
abbrev Cx:=Ex->St D.E->T (AV D.E)->Prop
def IV (v:AV D.E):Prop:=match v with
 | .int k n=>iY k n
 | .str s=>aH (dL s) 9223372036854775807
 | .list _ xs=>aH (ag xs) 9223372036854775807
 | .grow _ xs _=>aH (ag xs) 9223372036854775807
 | .own _ _ n=>(aH zI n&&aH n 9223372036854775807)
 | _=>True
def OT (l:List (AV D.E)):Prop:=List.rec (motive:=λ_=>Prop) True (λv _ a=>IV D v/\a) l
def IW (v:AV D.E):Prop:=match v with
 | .agg l=>OT D l
 | .tuple l=>OT D l
 | v=>IV D v
def OU (k:IntKind) (x:Int) (n:Nat):C (AV D.E):=Nat.rec (motive:=λ_=>C (AV D.E)) (ask (aC x zI) (.ret (.num k zI))) (λm a=>.split (aC x (.ofNat (Nat.succ m))) (.ret (.num k (.ofNat (Nat.succ m)))) a) n
def Cy (v:AV D.E) (n:Nat):C (AV D.E):=match v with
 | .int k x=>OU D k x n
 | v=>.ret v
def IX (s:St D.E) (v:AV D.E):C (AV D.E×St D.E):=match v with
 | .own b _ _=>aL (qY D ⟨s,[],[]⟩ b) λa m=>.ret (.list a.c a.xs,m.s)
 | .pre b _ n=>aL (qY D ⟨s,[],[]⟩ b) λa m=>.ret (.list a.c (dj a.xs n),m.s)
 | .part b _ o n=>aL (qY D ⟨s,[],[]⟩ b) λa m=>.ret (.list a.c (qX a.xs o n),m.s)
 | .grow c xs _=>.ret (.list c xs,s)
 | v=>.ret (v,s)
def Fq (b o n:Nat) (s:St D.E):C (St D.E):=az (cN (s.h.get b)) λa=>match a with
 | .cells cs e ro=>az (cN (gn cs o)) λv=>az (Cy D v n) λv=>s.set b (some (.cells (cC cs o v) e ro))
 | _=>.fail
def yV (h:Hint) (s:St D.E) (φ:T (AV D.E)):C (St D.E×T (AV D.E)):=match h with
 | .lock t=>az (cN (φ.get t)) λv=>aL (IX D s v) λv s=>az (cN (φ.put t (some v))) λφ=>.ret (s,φ)
 | .Qb3 t n=>az (cN (φ.get t)) λv=>az (Cy D v n) λv=>az (cN (φ.put t (some v))) λφ=>.ret (s,φ)
 | .fact _=>.ret (s,φ)
 | .IU b o n=>az (Fq D b o n s) λs=>.ret (s,φ)
def Ϸ (h:Hint) (φ:T (AV D.E)) (K:Prop):Prop:=match h with
 | .fact t=>Option.rec (motive:=λ_=>Prop) K (λv=>IW D v->K) (φ.get t)
 | _=>K
def od (l:List (Nat×Hint)) (id:Nat):St D.E->T (AV D.E)->(St D.E->T (AV D.E)->Prop)->Prop:=
 List.rec (motive:=λ_=>St D.E->T (AV D.E)->(St D.E->T (AV D.E)->Prop)->Prop) (λs φ K=>K s φ)
  (λp _ a s φ K=>bif Nat.beq p.1 id then Ϸ D p.2 φ ((yV D p.2 s φ).wp λq=>Prod.rec (motive:=λ_=>Prop) (λs φ=>a s φ K) q) else a s φ K) l
def Ww (Q:Cx D) (K:St D.E->T (AV D.E)->Prop):Cx D:=λe s φ=>match e with
 | .normal=>K s φ
 | .exit id=>Q (.exit id) s φ
 | .ret=>Q .ret s φ
def Qb4 (id:Nat) (Q:Cx D):Cx D:=λe s φ=>match e with
 | .normal=>Q .normal s φ
 | .exit a=>bif Nat.beq a id then Q .normal s φ else Q (.exit a) s φ
 | .ret=>Q .ret s φ
def vI (φ:T (AV D.E)) (l:List Nat):C (List (AV D.E)):=List.rec (motive:=λ_=>C (List (AV D.E))) (.ret []) (λt _ a=>az (cN (φ.get t)) λv=>az a λr=>.ret (v::r)) l
def Wx (a:List (AV D.E)) (l:List Nat):T (AV D.E)->C (T (AV D.E)):=
 List.rec (motive:=λ_=>List (AV D.E)->T (AV D.E)->C (T (AV D.E))) (λ_ φ=>.ret φ) (λt _ b a φ=>List.rec (motive:=λ_=>C (T (AV D.E))) .fail (λv a _=>az (cN (φ.put t (some v))) λφ=>b a φ) a) l a
def Lt (s:St D.E) (l:List Nat):C (List (Nat×AO D.E)):=List.rec (motive:=λ_=>C (List (Nat×AO D.E))) (.ret []) (λt _ a=>az (cN (s.h.get t)) λv=>az a λr=>.ret ((t,v)::r)) l
def Lu (l:List (Nat×AO D.E)):T (AO D.E)->C (T (AO D.E)):=List.rec (motive:=λ_=>T (AO D.E)->C (T (AO D.E))) (λh=>.ret h) (λp _ a h=>az (a h) λh=>cN (h.put p.1 (some p.2))) l
def Qb5 {α:Type} (l:List (Nat×α)):List Nat:=ss (λp=>p.1) l
def Qb6 {α:Type} (l:List (Nat×α)):List α:=ss (λp=>p.2) l
def fixed (base:Nat) (l:List (Nat×AO D.E)):Ren:=List.rec (motive:=λ_=>Ren) [] (λp _ a=>bif Nat.ble (Nat.succ p.1) base then(p.1,p.1)::a else a) l
def tt (base:Nat) (L:iG D) (x:L.X) (a:List (AV D.E)) (kp:List (Nat×AO D.E)) (s:St D.E) (φ:T (AV D.E)):C Unit:=
 az (vI D φ (mN L.aN (Qb5 (L.sl x)))) λQug=>az (OP D s (fixed D base (mN kp (L.pc x))) (mN kp (L.pc x)) Qug (mN a (Qb6 (L.sl x)))) λ_=>eC
def IY (base:Nat) (L:iG D) (x:L.X) (a:List (AV D.E)) (kp:List (Nat×AO D.E)):C (St D.E×T (AV D.E)):=
 az (Wx D a L.aN .nil) λφ=>az (Wx D (Qb6 (L.sl x)) (Qb5 (L.sl x)) φ) λφ=>az (Lu D (mN kp (L.pc x)) .nil) λh=>bB (Bool.and (Nat.ble base L.nx) (below D L.nx (mN kp (L.pc x)))) (.ret (⟨h,L.nx⟩,φ))
abbrev Wk:=Nat->St D.E->T (AV D.E)->Cx D->Prop
def yW (base:Nat) (L:iG D) (body:Wk D):Wk D:=λp s φ Q=>
 (az (vI D φ L.aN) λa=>az (Lt D s L.kp) λkp=>.ret (a,kp)).wp λq=>Prod.rec (motive:=λ_=>Prop) (λa kp=>
  (∃x:L.X,(tt D base L x a kp s φ).wp λ_=>Iv (L.inv x))/\
  (∀x:L.X,Iv (L.inv x)->(IY D base L x a kp).wp λq=>Prod.rec (motive:=λ_=>Prop) (λs φ=>body (Nat.mul (nat_lit 2) p) s φ λe s φ=>match e with
   | .normal=>∃b:L.X,(tt D base L b a kp s φ).wp λ_=>Iv (L.inv b/\L.me b<L.me x)
   | .exit id=>Q (.exit id) s φ
   | .ret=>Q .ret s φ) q)) q
def OV (base:Nat) (L:iG D) (a:List (AV D.E)) (kp:List (Nat×AO D.E)) (body:Wk D) (p:Nat) (G:Nat->St D.E->T (AV D.E)->Prop) (Q:Cx D):Prop:=∀x:L.X,Iv (L.inv x)->(IY D base L x a kp).wp λq=>Prod.rec (motive:=λ_=>Prop) (λs φ=>body (Nat.mul (nat_lit 2) p) s φ λe s φ=>match e with| .normal=>G (L.me x) s φ| .exit id=>Q (.exit id) s φ| .ret=>Q .ret s φ) q
def vJ (base:Nat) (L:iG D) (b:List (AV D.E)) (kp:List (Nat×AO D.E)) (n:Nat) (s:St D.E) (φ:T (AV D.E)):Prop:=∃a:L.X,(tt D base L a b kp s φ).wp λ_=>Iv (L.inv a/\L.me a<n)
def Ft (base:Nat) (L b:iG D) (body:Wk D):Wk D:=λp s φ Q=>
 (az (vI D φ L.aN) λa=>az (Lt D s L.kp) λkp=>bB (Nat.beq (jM L.aN) (jM b.aN)) (.ret (a,kp))).wp λq=>Prod.rec (motive:=λ_=>Prop) (λa kp=>
  (∃x:L.X,(tt D base L x a kp s φ).wp λ_=>Iv (L.inv x))/\
  OV D base L a kp body p (λn s φ=>vJ D base L a kp n s φ\/vJ D base b a kp n s φ) Q/\OV D base b a kp body p (λn s φ=>vJ D base L a kp n s φ\/vJ D base b a kp n s φ) Q) q
def yX (base:Nat) (L:iG D) (b c:Wk D):Wk D:=λp s φ Q=>
 (az (vI D φ L.aN) λa=>az (Lt D s L.kp) λkp=>.ret (a,kp)).wp λq=>Prod.rec (motive:=λ_=>Prop) (λa kp=>
  b (Nat.mul (nat_lit 2) p) s φ (Ww D Q λs φ=>∃x:L.X,(tt D base L x a kp s φ).wp λ_=>Iv (L.inv x))/\
  (∀x:L.X,Iv (L.inv x)->(IY D base L x a kp).wp λq=>Prod.rec (motive:=λ_=>Prop) (λs φ=>c (Nat.succ (Nat.mul (nat_lit 2) p)) s φ Q) q)) q
def A0 (n:Nat) (body:Wk D):Wk D:=Nat.rec (motive:=λ_=>Wk D) (λ_ _ _ _=>False) (λ_ a p s φ Q=>body (Nat.mul (nat_lit 2) p) s φ λe s φ=>match e with
   | .normal=>a (Nat.add p (nat_lit 18446744073709551616)) s φ Q
   | .exit id=>Q (.exit id) s φ
   | .ret=>Q .ret s φ) n
end
section
variable (P:Program) (D:Data) (cd:TypeId->Option Nat) (ca:tr D.E) (base:Nat) (iH:cO D) (N:Nat)
def Cz (l:List Nat) (n:Nat):Bool:=AK (λm=>Nat.beq m n) l
def Cj (c:Code):Wk D:=
 Code.rec (motive:=λ_=>Wk D)
  (λ_ s φ Q=>Q .normal s φ)
  (λid ops draw _ s φ Q=>od D iH.hs id s φ λs φ=>(bif draw then Cw P D cd (Cz iH.mu id) ca ops.toList N s φ else qj P D cd (Cz iH.mu id) ca ops.toList N ops.toList (nat_lit 0) s φ).wp λq=>Prod.rec (motive:=λ_=>Prop) (λs φ=>Q .normal s φ) q)
  (λ_ _ b a p s φ Q=>Option.rec (motive:=λ_=>Prop) (Option.rec (motive:=λ_=>Prop) (b (Nat.mul (nat_lit 2) p) s φ (Ww D Q λs φ=>a (Nat.succ (Nat.mul (nat_lit 2) p)) s φ Q)) (λL=>yX D base L b a p s φ Q) (cq iH.jn p)) (λF=>∃k:F.K,yX D base (F.L k) b a p s φ Q) (cq iH.kf p))
  (λc _ _ b a p s φ Q=>(az (ev P D φ c) λv=>vD D v).wp λt=>bif t then b (Nat.mul (nat_lit 2) p) s φ Q else a (Nat.succ (Nat.mul (nat_lit 2) p)) s φ Q)
  (λid _ a p s φ Q=>a (Nat.mul (nat_lit 2) p) s φ (Qb4 D id Q))
  (λ_ a p s φ Q=>Option.rec (motive:=λ_=>Prop) (Option.rec (motive:=λ_=>Prop) (A0 D iH.un a p s φ Q) (λL=>yW D base L a p s φ Q) (cq iH.lp p)) (λF=>∃k:F.K,Option.rec (motive:=λ_=>Prop) (yW D base (F.L k) a p s φ Q) (λd=>Ft D base (F.L k) d a p s φ Q) F.E) (cq iH.kf p))
  (λ_ _ _ _ _ _ _ _ _ _=>False)
  (λid _ s φ Q=>Q (.exit id) s φ)
  (λ_ _ _ _ _ _=>False)
  (λ_ _ s φ Q=>Q .normal s φ)
  (λ_ _ _ _ _=>False)
  (λ_ s φ Q=>Q .ret s φ)
  (λ_ _ _ _ _=>False) c
def OW (s:St D.E) (φ:T (AV D.E)) (r:ResultVar):C (AV D.E):=match r with
 | .tmp t=>cN (φ.get t)
 | .cell a t=>az (cN (φ.get a)) λv=>Cr P D s t v
def OX (s:St D.E) (φ:T (AV D.E)) (rs:List ResultVar):C (List (AV D.E)):=
 List.rec (motive:=λ_=>C (List (AV D.E))) (.ret []) (λr _ a=>az (OW P D s φ r) λv=>az a λb=>.ret (v::b)) rs
def vK (v:AV D.E):List (AV D.E):=match v with
 | .tuple a=>a
 | v=>[v]
def sA (b:List (AV D.E)):Nat->T (AV D.E)->C (T (AV D.E)):=
 List.rec (motive:=λ_=>Nat->T (AV D.E)->C (T (AV D.E))) (λ_ φ=>.ret φ) (λv _ a i φ=>az (cN (φ.put i (some v))) λφ=>a (Nat.succ i) φ) b
def stay (a b:List (Nat×AO D.E)):Ren:=List.rec (motive:=λ_=>Ren) [] (λp _ c=>bif Option.isSome (cq b p.1) then(p.1,p.1)::c else c) a
def named (a b:List (Nat×AO D.E)) (lo hi:Nat):Bool:=je (λp=>Bool.or (Option.isSome (cq a p.1)) (Bool.and (Nat.ble lo p.1) (Nat.ble (Nat.succ p.1) hi))) b
def CA (v:AV D.E):Bool:=match v with
 | .tuple a=>Bool.not (Nat.beq (jM a) (nat_lit 1))
 | _=>true
def QkV (k:br D) (y:k.Y) (rs:List ResultVar):Cx D:=λe s φ=>match e with
 | .exit _=>False
 | _=>(bB (Bool.and (CA D (k.res y)) (Bool.and (named D (k.heap y) (k.hZ y) k.nY k.Ci) (Nat.ble k.nY k.Ci))) (az (OX P D s φ rs) λa=>OP D s (stay D (k.hZ y) (k.heap y)) (k.hZ y) a (vK D (k.res y)))).wp λ_=>True
def OY (k:br D) (body:Code) (rs:List ResultVar) (y:k.Y):Prop:=(az (sA D (k.args y) (nat_lit 0) .nil) λφ=>az (Lu D (k.heap y) .nil) λh=>.ret (φ,h)).wp λq=>Prod.rec (motive:=λ_=>Prop)
 (λφ h=>Cj P D cd ca k.nY iH N body (nat_lit 1) ⟨h,k.nY⟩ φ (QkV P D k y rs)) q
end
end
end sx
namespace sx
open Go Go.RowKit
section
variable {α β γ:Type}
variable {b:β} {a:α} {c:Bool} {x:C α} {Z Y:Nat} {X:C β} {W:Option α} {V:Option β}
theorem aE {f:α->Option β}:oB W f=some b↔∃a,W=some a/\f a=some b:=by
 cases W with
 | none=>exact⟨λh=>(nomatch h),λ⟨_,h,_⟩=>(nomatch h)⟩
 | some a=>exact⟨λh=>⟨a,rfl,h⟩,λ⟨_,h,r⟩=>by cases h;exact r⟩
def kV:oI c V=some b↔c/\V=some b:=by
 cases c
 ·exact⟨λh=>(nomatch h),λ⟨h,_⟩=>(nomatch h)⟩
 ·exact⟨λh=>⟨rfl,h⟩,λ⟨_,h⟩=>h⟩
def A1 {y:Option β}:oE c V y=some b↔(c/\V=some b)\/(c=false/\y=some b):=by
 cases c
 ·exact⟨λh=>.inr ⟨rfl,h⟩,λh=>by rcases h with⟨h,_⟩ | ⟨_,h⟩;cases h;exact h⟩
 ·exact⟨λh=>.inl ⟨rfl,h⟩,λh=>by rcases h with⟨_,h⟩ | ⟨h,_⟩;exact h;cases h⟩
theorem au {b:α}:(C.ret a).H b↔a=b:=ZbW
def sB:¬(C.fail:C α).H a:=id
theorem cD {p:Prop}:(C.eN p x).H a↔p/\x.H a:=ZbW
theorem uK {y:C α}:(C.split c x y).H a↔(c/\x.H a)\/(c=false/\y.H a):=ZbW
theorem ai {f:α->C β}:(az x f).H b↔∃a,x.H a/\(f a).H b:=by
 induction x with
 | ret a=>exact⟨λh=>⟨a,rfl,h⟩,λ⟨_,h,d⟩=>by cases au.1 h;exact d⟩
 | fail=>exact⟨λh=>h.elim,λ⟨_,h,_⟩=>h.elim⟩
 | eN p x i=>
  show(p/\(az x f).H b)↔_
  rw[i];exact⟨λ⟨g,a,h1,d⟩=>⟨a,⟨g,h1⟩,d⟩,λ⟨a,⟨g,h1⟩,d⟩=>⟨g,a,h1,d⟩⟩
 | split c x y j k=>
  show((c/\(az x f).H b)\/(c=false/\(az y f).H b))↔_
  rw[j,k];constructor
  ·rintro(⟨e,a,h1,d⟩ | ⟨e,a,h1,d⟩)
   ·exact⟨a,.inl ⟨e,h1⟩,d⟩
   ·exact⟨a,.inr ⟨e,h1⟩,d⟩
  ·rintro⟨a,⟨e,h1⟩ | ⟨e,h1⟩,d⟩
   ·exact .inl ⟨e,a,h1,d⟩
   ·exact .inr ⟨e,a,h1,d⟩
 | want c x i=>
  show(c/\(az x f).H b)↔_
  rw[i];exact⟨λ⟨g,a,h1,d⟩=>⟨a,⟨g,h1⟩,d⟩,λ⟨a,⟨g,h1⟩,d⟩=>⟨g,a,h1,d⟩⟩
theorem bk {x:C (α×β)} {f:α->β->C γ} {r:γ}:(aL x f).H r↔∃a b,x.H (a,b)/\(f a b).H r:=by
 grind [aL,ai]
theorem bw:(bB c X).H b↔c/\X.H b:=by
 cases c
 ·exact⟨λh=>h.elim,λ⟨h,_⟩=>(nomatch h)⟩
 ·exact⟨λh=>⟨rfl,h⟩,λ⟨_,h⟩=>h⟩
theorem gA {y:C β}:(bE c X y).H b↔(c/\X.H b)\/(c=false/\y.H b):=by
 cases c
 ·exact⟨λh=>.inr ⟨rfl,h⟩,λh=>by rcases h with⟨h,_⟩ | ⟨_,h⟩;cases h;exact h⟩
 ·exact⟨λh=>.inl ⟨rfl,h⟩,λh=>by rcases h with⟨_,h⟩ | ⟨h,_⟩;exact h;cases h⟩
theorem bz:(cN W).H a↔W=some a:=by
 cases W with
 | none=>exact⟨λh=>h.elim,λh=>nomatch h⟩
 | some b=>exact⟨λh=>ZaR some (au.1 h),λh=>by cases h;rfl⟩
theorem cT:(ask c X).H b↔c/\X.H b:=ZbW
theorem fM {K:α->Prop} (h:x.wp K):∃a,x.H a/\K a:=by
 induction x with
 | ret a=>exact⟨a,rfl,h⟩
 | fail=>exact h.elim
 | eN p x g=>obtain⟨f,h⟩:=h;obtain⟨a,h1,b⟩:=g h;exact⟨a,⟨f,h1⟩,b⟩
 | want c x g=>obtain⟨f,h⟩:=h;obtain⟨a,h1,b⟩:=g h;exact⟨a,⟨f,h1⟩,b⟩
 | split c x y i j=>
  obtain⟨h1,b⟩:=h;cases k:c with
  | true=>obtain⟨a,d,e⟩:=i (h1 k);exact⟨a,.inl ⟨rfl,d⟩,e⟩
  | false=>obtain⟨a,d,e⟩:=j (b k);exact⟨a,.inr ⟨rfl,d⟩,e⟩
theorem QeP {b:α} (d:x.H a) (e:x.H b):a=b:=by
 induction x with
 | ret c=>exact(au.1 d).symm.trans (au.1 e)
 | fail=>exact d.elim
 | eN p x h=>exact h d.2 e.2
 | want c x h=>exact h d.2 e.2
 | split c x y i j=>
  rcases d with⟨h1,f⟩ | ⟨h1,f⟩<;>rcases e with⟨k,g⟩ | ⟨k,g⟩
  ·exact i f g
  ·grind
  ·grind
  ·exact j f g
theorem ϸ (h:(knw x).H a):x.H a:=by
 induction x with
 | ret c=>exact h
 | fail=>exact h
 | eN p x d=>exact⟨h.1,d h.2⟩
 | want c x d=>
  obtain⟨h1,b⟩:=bw.1 (show(bB c (knw x)).H a from h);exact⟨h1,d b⟩
 | split c x y e f=>
  rcases gA.1 (show(bE c (knw x) (knw y)).H a from h) with⟨h1,b⟩ | ⟨h1,b⟩
  ·exact .inl ⟨h1,e b⟩
  ·exact .inr ⟨h1,f b⟩
theorem aM:Nat.beq Z Y↔Z=Y:=⟨ZdO,λh=>h▸ZdY Z⟩
theorem cm:Nat.ble Z Y↔Z<=Y:=Nat.ble_eq▸ZbW
theorem qZ:Nat.beq Z Y=false↔Z≠Y:=by
 grind [aM]
theorem CB:Nat.ble Z Y=false↔Y<Z:=by
 grind [cm]
end
section
variable {α:Type}
theorem T.get_nil (k:Nat):(T.nil:T α).get k=none:=rfl
def T.lP (v:Option α) (l r:T α):(T.node v l r).get 0=v:=rfl
theorem T.oe (v:Option α) (l r:T α) (k:Nat) (h:k % 2=0):(T.node v l r).get (k+1)=l.get (k / 2):=by
 show Nat.rec (motive:=λ_=>Option α) (l.get (k / 2)) (λ_ _=>r.get (k / 2)) (k % 2)=_
 rw[h];rfl
theorem T.q_ (v:Option α) (l r:T α) (k:Nat) (h:k % 2=1):(T.node v l r).get (k+1)=r.get (k / 2):=by
 show Nat.rec (motive:=λ_=>Option α) (l.get (k / 2)) (λ_ _=>r.get (k / 2)) (k % 2)=_
 rw[h];rfl
theorem T.vL:∀(n k:Nat) (a:Option α) (t:T α),T.mk1 n k a=some t->∀j,t.get j=if j=k then a else none
 | 0,k,a,t,h,j=>nomatch h
 | n+1,0,a,t,h,j=>by
  have b:some (T.node a .nil .nil)=some t:=h;cases b;cases j with
  | zero=>simp[T.lP]
  | succ j=>
   grind [T.oe,T.get_nil,T.q_]
 | n+1,k+1,a,t,h,j=>by
  have b:Nat.rec (motive:=λ_=>Option (T α)) (oB (T.mk1 n (k / 2) a) λl=>some (.node none l .nil)) (λ_ _=>oB (T.mk1 n (k / 2) a) λr=>some (.node none .nil r)) (k % 2)=some t:=h;rcases Zbq k with e | e
  ·rw[e] at b;obtain⟨l,hl,ht⟩:=aE.1 b;cases ht;have c:=T.vL n _ _ _ hl;cases j with
   | zero=>simp[T.lP]
   | succ j=>
    grind [T.oe,T.q_,T.get_nil]
  ·rw[e] at b;obtain⟨l,hl,ht⟩:=aE.1 b;cases ht;have c:=T.vL n _ _ _ hl;cases j with
   | zero=>simp[T.lP]
   | succ j=>
    grind [T.oe,T.get_nil,T.q_]
theorem T.dO:∀(t:T α) (k:Nat) (a:Option α) (b:T α),t.put k a=some b->∀j,b.get j=if j=k then a else t.get j
 | .nil,k,a,b,h,j=>by rw[T.vL 64 k a b h j,T.get_nil]
 | .node v l r,0,a,b,h,j=>by
  have c:some (T.node a l r)=some b:=h;cases c;cases j with
  | zero=>simp[T.lP]
  | succ j=>
   rfl
 | .node v l r,k+1,a,b,h,j=>by
  have c:Nat.rec (motive:=λ_=>Option (T α)) (oB (l.put (k / 2) a) λd=>some (.node v d r)) (λ_ _=>oB (r.put (k / 2) a) λg=>some (.node v l g)) (k % 2)=some b:=h;rcases Zbq k with e | e
  ·rw[e] at c;obtain⟨d,hl,ht⟩:=aE.1 c;cases ht;have f:=T.dO l _ _ _ hl;cases j with
   | zero=>simp[T.lP]
   | succ j=>
    grind [T.oe,T.q_]
  ·rw[e] at c;obtain⟨d,hl,ht⟩:=aE.1 c;cases ht;have f:=T.dO r _ _ _ hl;cases j with
   | zero=>simp[T.lP]
   | succ j=>
    grind [T.oe,T.q_]
end
section
variable {α:Type}
theorem gL (l:List α):jM l=l.length:=by
 induction l with
 | nil=>rfl
 | cons a l b=>show Nat.succ (jM l)=_;rw[b];rfl
theorem eI:∀(l:List α) (n:Nat),gn l n=l[n]?
 | [],n=>by rfl
 | a::l,0=>rfl
 | a::l,n+1=>by show gn l n=_;rw[eI l n];simp
theorem fi:∀(x y:List α),mN x y=x++y
 | [],y=>rfl
 | a::x,y=>by show a::mN x y=_;rw[fi x y];rfl
theorem pb {β:Type} (f:α->β):∀l:List α,ss f l=l.map f
 | []=>rfl
 | a::l=>by show f a::ss f l=_;rw[pb f l];rfl
theorem lQ:∀(n:Nat) (l:List α),nI n l=l.drop n
 | 0,l=>rfl
 | n+1,[]=>by rfl
 | n+1,a::l=>by show nI n l=_;rw[lQ n l];rfl
theorem iL:∀{n:Nat} {l r:List α},tn n l=some r->n<=l.length/\r=l.take n
 | 0,l,r,h=>by cases(show some []=some r from h);simp
 | n+1,[],r,h=>nomatch (show none=some r from h)
 | n+1,a::l,r,h=>by
  obtain⟨z,hz,b⟩:=aE.1 (show oB (tn n l) (λz=>some (a::z))=some r from h);cases b;obtain⟨h1,c⟩:=iL hz;grind
theorem dP {f:α->Bool}:∀{l:List α},je f l↔∀x∈l,f x
 | []=>by simp[je]
 | a::l=>by
  show Bool.rec (motive:=λ_=>Bool) false (je f l) (f a)↔_
  have:=dP (f:=f) (l:=l);cases h:f a<;>simp[h,this]
theorem vM:∀{a cs r:List α},IB a cs=some r->a.length<=cs.length/\r.length=cs.length/\∀i,r[i]?=if i<a.length then a[i]? else cs[i]?
 | [],cs,r,h=>by cases(show some cs=some r from h);simp
 | v::a,[],r,h=>nomatch (show none=some r from h)
 | v::a,c::cs,r,h=>by
  obtain⟨z,hz,b⟩:=aE.1 (show oB (IB a cs) (λz=>some (v::z))=some r from h);cases b;obtain⟨h1,d,e⟩:=vM hz;grind
theorem iM:∀{n:Nat} {a cs r:List α},Cp n a cs=some r->n+a.length<=cs.length/\r.length=cs.length/\∀i,r[i]?=if n<=i/\i<n+a.length then a[i-n]? else cs[i]?
 | 0,a,cs,r,h=>by
  obtain⟨h1,b,d⟩:=vM (show IB a cs=some r from h);grind
 | n+1,a,[],r,h=>nomatch (show none=some r from h)
 | n+1,a,c::cs,r,h=>by
  obtain⟨z,hz,e⟩:=aE.1 (show oB (Cp n a cs) (λz=>some (c::z))=some r from h);cases e;obtain⟨h1,b,d⟩:=iM hz;grind
def yY (n:Nat) (z:List α):Lq (n+1) z=z++Lq n z:=fi _ _
end
theorem lD {a b:Bool} (h:Bool.and a b):a/\b:=by grind
theorem or2 {a b:Bool} (h:Bool.or a b):a\/b:=by grind
structure MI where
 bV:Nat
 sh:Nat
 p_:Nat
 iN:Nat
 len:Nat
 real:Bool
structure Pm (D:Data) where
 pl:Nat->Option MI
 sg:Nat->Nat->Option (AV D.E)
def ct {D:Data} (M:Pm D) (b o c:Nat) (xs:List (D.E c)):Prop:=∀(i:Nat) (hi:i<xs.length) (j:Nat) (v:AV D.E),(D.bd c xs[i])[j]?=some v->M.sg b (o+i*D.size c+j)=some v
inductive VR {D:Data} (M:Pm D):AV D.E->Value->Prop
 | bool (b:Bool):VR M (.bool b) (.bool b)
 | lit (b:Bool):VR M (.lit b) (.bool b)
 | int {k:IntKind} {n:Int} (h:iY k n=true):VR M (.int k n) (.int k n)
 | num {k:IntKind} {n:Int} (h:iY k n=true):VR M (.num k n) (.int k n)
 | str {s:List UInt8} (h:s.length<=9223372036854775807):VR M (.str s) (.string ⟨⟨s⟩⟩)
 | gy:VR M .gy (.pointer none)
 | ptr {b o:Nat} {mi:MI} (h:M.pl b=some mi) (hr:mi.real=true):VR M (.ptr b o) (.pointer (some ⟨mi.bV,mi.sh+o,none⟩))
 | j7 (g o:Nat):VR M (.j7 g o) (.pointer (some ⟨g,o,none⟩))
 | lL {b k i j:Nat} {mi:MI} (h:M.pl b=some mi) (hr:mi.real=true) (hk:mi.iN=k) (hi:i<mi.len):VR M (.lL b k i j) (.pointer (some ⟨mi.bV,mi.sh+i*k+j,none⟩))
 | mP {c:Nat} {x:D.E c} {b o j:Nat} (h:∀(i:Nat) (v:AV D.E),(D.bd c x)[i]?=some v->M.sg b (o+i)=some v):VR M (.mP c x j) (.pointer (some ⟨b,o+j,none⟩))
 | dd:VR M .dd (.slice none 0 0)
 | own {b k cap:Nat} {n:Int} {mi:MI} (h:M.pl b=some mi) (hk:mi.iN=k) (hr:mi.real=true) (hn:n=mi.len) (hm:mi.len<=9223372036854775807) (hc:mi.len<=cap) (ht:mi.sh+cap*mi.iN=mi.p_):VR M (.own b k n) (.slice (some ⟨mi.bV,mi.sh,none⟩) mi.len cap)
 | lE {b k:Nat} {n:Int} {mi:MI} (h:M.pl b=some mi) (hk:mi.iN=k) (hr:mi.real=false) (hn:n=0) (hl:mi.len=0):VR M (.own b k n) (.slice none 0 0)
 | pre {b k l cap:Nat} {n:Int} {mi:MI} (h:M.pl b=some mi) (hk:mi.iN=k) (hr:mi.real=true) (hn:n=l) (hm:mi.len<=9223372036854775807) (hl:l<=mi.len) (hc:mi.len<=cap) (ht:mi.sh+cap*mi.iN=mi.p_):VR M (.pre b k n) (.slice (some ⟨mi.bV,mi.sh,none⟩) l cap)
 | og {b k:Nat} {n:Int} {mi:MI} (h:M.pl b=some mi) (hk:mi.iN=k) (hr:mi.real=false) (hn:n=0) (hl:mi.len=0):VR M (.pre b k n) (.slice none 0 0)
 | part {b k l cap:Nat} {o n:Int} {mi:MI} (h:M.pl b=some mi) (hk:mi.iN=k) (hr:mi.real=true) (hn:n=l) (ho:0<=o) (hl:o.toNat+l<=mi.len) (hm:mi.len<=9223372036854775807) (hc:l<=cap):VR M (.part b k o n) (.slice (some ⟨mi.bV,mi.sh+o.toNat*mi.iN,none⟩) l cap)
 | jf {b k c:Nat} {o n:Int} {mi:MI} {a:Option Addr} (h:M.pl b=some mi) (hk:mi.iN=k) (hn:n=0) (ho:0<=o):VR M (.part b k o n) (.slice a 0 c)
 | grow {c b cap:Nat} {xs:List (D.E c)} {mi:MI} (h:M.pl b=some mi) (hr:mi.real=true) (hl:mi.len=xs.length) (hz:mi.iN=D.size c) (hs:ct M mi.bV mi.sh c xs) (hm:xs.length<=9223372036854775807) (hc:xs.length<=cap) (ht:mi.sh+cap*mi.iN=mi.p_):
   VR M (.grow c xs b) (.slice (some ⟨mi.bV,mi.sh,none⟩) xs.length cap)
 | jF {c b:Nat} {mi:MI} (h:M.pl b=some mi) (hr:mi.real=false):VR M (.grow c [] b) (.slice none 0 0)
 | sub {b o n cap:Nat} {mi:MI} (h:M.pl b=some mi) (hr:mi.real=true) (hc:n<=cap) (hm:n<=9223372036854775807):VR M (.sub b o n) (.slice (some ⟨mi.bV,mi.sh+o,none⟩) n cap)
 | oh {b o cap:Nat} {a:Addr}:VR M (.sub b o 0) (.slice (some a) 0 cap)
 | list {c b o cap:Nat} {xs:List (D.E c)} (hs:ct M b o c xs) (hm:xs.length<=9223372036854775807) (hc:xs.length<=cap):VR M (.list c xs) (.slice (some ⟨b,o,none⟩) xs.length cap)
 | eD {c cap:Nat} {a:Option Addr}:VR M (.list c []) (.slice a 0 cap)
 | pP:VR M .pP (.map none)
 | map {r:Nat} {mi:MI} (h:M.pl r=some mi):VR M (.map r) (.map (some mi.bV))
 | nilFunc:VR M .nilFunc .nilFunc
 | nilIface:VR M .nilIface .nilIface
 | iface (t:TypeId) {v:AV D.E} {v':Value} (h:VR M v v'):VR M (.iface t v) (.iface t v')
 | agg {c:List (AV D.E)} {c':Array Value} (hl:c.length=c'.toList.length) (h:∀(i:Nat) (v:AV D.E) (v':Value),c[i]?=some v->c'.toList[i]?=some v'->VR M v v'):VR M (.agg c) (.agg c')
 | tuple {c:List (AV D.E)} {c':Array Value} (hl:c.length=c'.toList.length) (h:∀(i:Nat) (v:AV D.E) (v':Value),c[i]?=some v->c'.toList[i]?=some v'->VR M v v'):VR M (.tuple c) (.tuple c')
 | func (fn:Fn) {f c:List (AV D.E)} {f' c':Array Value} (hl:f.length=f'.toList.length) (h:∀(i:Nat) (v:AV D.E) (v':Value),f[i]?=some v->f'.toList[i]?=some v'->VR M v v')
   (hl2:c.length=c'.toList.length) (h2:∀(i:Nat) (v:AV D.E) (v':Value),c[i]?=some v->c'.toList[i]?=some v'->VR M v v'):VR M (.func fn f c) (.func fn f' c')
section
variable {D:Data} {M M':Pm D}
variable {c:List Value} {l:List (AV D.E)} {v:AV D.E} {p:Value}
variable {b:List Value}
def LR (M:Pm D) (l:List (AV D.E)) (a:List Value):Prop:=l.length=a.length/\∀(i:Nat) (v:AV D.E) (b:Value),l[i]?=some v->a[i]?=some b->VR M v b
def Fu (M a:Pm D):Prop:=∀b o v,M.sg b o=some v->a.sg b o=some v
def Le (M a:Pm D):Prop:=(∀b c,M.pl b=some c->a.pl b=some c)/\Fu M a
theorem Le.refl (M:Pm D):Le M M:=⟨λ_ _ h=>h,λ_ _ _ h=>h⟩
def ct.mono (a:Fu M M') {b o c:Nat} {xs:List (D.E c)} (h:ct M b o c xs):ct M' b o c xs:=λi hi j v e=>a _ _ _ (h i hi j v e)
theorem VR.mono (c:Le M M') (h:VR M v p):VR M' v p:=by
 induction h with
 | bool b=>exact .bool b
 | lit b=>exact .lit b
 | int h=>exact .int h
 | num h=>exact .num h
 | str h=>exact .str h
 | gy=>exact .gy
 | ptr h a=>exact .ptr (c.1 _ _ h) a
 | j7 g o=>exact .j7 g o
 | lL h a hk hi=>exact .lL (c.1 _ _ h) a hk hi
 | mP h=>exact .mP λi v e=>c.2 _ _ _ (h i v e)
 | dd=>exact .dd
 | own h hk a j f d ht=>exact .own (c.1 _ _ h) hk a j f d ht
 | lE h hk a j hl=>exact .lE (c.1 _ _ h) hk a j hl
 | pre h hk a j f hl d ht=>exact .pre (c.1 _ _ h) hk a j f hl d ht
 | og h hk a j hl=>exact .og (c.1 _ _ h) hk a j hl
 | part h hk a j m hl f d=>exact .part (c.1 _ _ h) hk a j m hl f d
 | jf h hk j m=>exact .jf (c.1 _ _ h) hk j m
 | grow h a hl hz hs f d ht=>exact .grow (c.1 _ _ h) a hl hz (hs.mono c.2) f d ht
 | jF h a=>exact .jF (c.1 _ _ h) a
 | sub h a d f=>exact .sub (c.1 _ _ h) a d f
 | oh=>exact .oh
 | list hs f d=>exact .list (hs.mono c.2) f d
 | eD=>exact .eD
 | pP=>exact .pP
 | map h=>exact .map (c.1 _ _ h)
 | nilFunc=>exact .nilFunc
 | nilIface=>exact .nilIface
 | iface t _ k=>exact .iface t k
 | agg hl _ k=>exact .agg hl k
 | tuple hl _ k=>exact .tuple hl k
 | func fn hl _ l _ k n=>exact .func fn hl k l n
def LR.mono (d:Le M M') (h:LR M l c):LR M' l c:=⟨h.1,λi v e a b=>(h.2 i v e a b).mono d⟩
theorem LR.nil:LR M [] []:=⟨rfl,λi v a h=>by simp at h⟩
def LR.cons (h:VR M v p) (hl:LR M l c):LR M (v::l) (p::c):=
 ⟨by simp[hl.1],λi u e a b=>by
  cases i with
  | zero=>simp at a b;subst a;subst b;exact h
  | succ i=>exact hl.2 i u e (by simpa using a) (by assumption)⟩
theorem LR.bD (h:LR M (v::l) c):∃d r,c=d::r/\VR M v d/\LR M l r:=by
 have⟨hl,e⟩:=h;cases c with
 | nil=>simp at hl
 | cons d r=>exact⟨d,r,rfl,e 0 v d rfl rfl,by grind,λi u f a b=>e (i+1) u f (by simpa using a) (by simpa using b)⟩
def LR.kW (h:LR M [] c):c=[]:=Zap h.1.symm
def LR.get (h:LR M l c) {i:Nat} (b:l[i]?=some v):∃a,c[i]?=some a/\VR M v a:=by
 have hi:i<c.length:=by rw[<-h.1];exact(Zam.1 b).1
 exact⟨_,Zaf hi,h.2 i v _ b (Zaf hi)⟩
def LR.app {f:List (AV D.E)} (h:LR M l c) (k:LR M f b):LR M (l++f) (c++b):=by
 refine⟨by simp[h.1,k.1],λi v g e d=>?_⟩;by_cases hi:i<l.length
 ·rw[Zat hi] at e;rw[Zat (by rw[<-h.1];exact hi)] at d;exact h.2 i v g e d
 ·rw[Zaz ω] at e;rw[Zaz (by rw[<-h.1];omega),<-h.1] at d;exact k.2 _ v g e d
theorem LR.drop (h:LR M l b) (n:Nat):LR M (l.drop n) (b.drop n):=
 ⟨by simp[h.1],λi v c e d=>h.2 (n+i) v c (by grind) (by grind)⟩
def LR.take (h:LR M l c) (n:Nat):LR M (l.take n) (c.take n):=
 ⟨by simp[h.1],λi v d e b=>by
  rw[Za7] at e b;split at e
  ·rename_i hi;rw[Zac hi] at b;exact h.2 i v d e b
  ·cases e⟩
def VR.CC (h:LR M l c):VR M (.agg l) (.agg ⟨c⟩):=.agg h.1 h.2
def VR.CD (h:LR M l c):VR M (.tuple l) (.tuple ⟨c⟩):=.tuple h.1 h.2
def VR.undef:VR M (sx.undef:AV D.E) Go.undef:=.tuple rfl (λi v a h=>by cases h)
theorem eO (h:VR M v p):LR M (c_ v) p.cells.toList:=by
 have hs:∀(u:AV D.E) (a:Value),VR M u a->LR M [u] [a]:=λu a k=>.cons k .nil
 cases h
 case agg hl h=>exact⟨hl,h⟩
 all_goals (exact hs _ _ (by constructor<;>assumption))
def Qb7 (h:VR M v p) (h1:one v):p.oneCell':=by
 cases h<;>first | rfl | cases h1
theorem sC (h:LR M l c) (h1:je one l):∀v∈c,v.oneCell':=by
 intro d b;have⟨i,hi⟩:=List.mem_iff_getElem?.1 b;have a:i<l.length:=by rw[h.1];exact(Zam.1 hi).1
 exact Qb7 (h.2 i _ d (Zaf a) hi) (dP.1 h1 _ (Zas a))
def lS (v:AV D.E):Bool:=match v with
 | .bool _=>true | .lit _=>true | .int _ _=>true | .num _ _=>true | .str _=>true | .gy=>true | .j7 _ _=>true | .mP _ _ _=>true | .dd=>true | .list _ _=>true | .pP=>true | .nilFunc=>true | .nilIface=>true
 | .func _ f c=>f.isEmpty&&c.isEmpty
 | _=>false
theorem VR.pure {v':Value} (h:VR M v v') (d:lS v) (j:Fu M M'):VR M' v v':=by
 cases h<;>first | (cases d;done) | skip
 case bool b=>exact .bool b
 case lit b=>exact .lit b
 case int h=>exact .int h
 case num h=>exact .num h
 case str h=>exact .str h
 case gy=>exact .gy
 case j7 g o=>exact .j7 g o
 case mP h=>exact .mP λi v e=>j _ _ _ (h i v e)
 case dd=>exact .dd
 case list hs l k=>exact .list (hs.mono j) l k
 case eD=>exact .eD
 case pP=>exact .pP
 case nilFunc=>exact .nilFunc
 case nilIface=>exact .nilIface
 case func fn f c n m hl h a p=>
  simp only[lS,ZaW,List.isEmpty_iff] at d;obtain⟨rfl,rfl⟩:=d;exact .func fn hl (λi v v' e=>by simp at e) a (λi v v' e=>by simp at e)
end
structure aY (D:Data):Prop where
 len:∀c x,(D.bd c x).length=D.size c
 one:∀c x,∀v∈D.bd c x,one v=true/\lS v=true
 dec:∀c row x,D.dec c row=some x->row.length=D.size c/\∀(j:Nat) (a a':AV D.E),row[j]?=some a->(D.bd c x)[j]?=some a'->∀(M:Pm D) (v:Value),VR M a v->VR M a' v
 b1:D.size D.bc=1
 bl:∀xs,(D.x9 xs).length=xs.length
 be:∀(xs:List (D.E D.bc)) (i:Nat) (h:i<xs.length),D.bd D.bc xs[i]=[.int .u8 ((D.x9 xs)[i]'(by rw[bl];exact h)).toNat]
 bo:∀l,D.x9 (D.ofB l)=l
section
variable {D:Data}
variable {M:Pm D} {c:MI} {w:World} {o:AO D.E}
def aW (c:Nat) (xs:List (D.E c)):List (AV D.E):=xs.flatMap (D.bd c)
def N7 (M:Pm D) (a:MI) (w:World) (cs:List (AV D.E)) (e:TypeId) (ro:Bool):Prop:=∃C b,w.heap[a.bV]?=some (.cells C e b)/\C.size=a.p_/\a.sh+cs.length<=a.p_/\
 (∀(i:Nat) (v:AV D.E),cs[i]?=some v->∃c,C[a.sh+i]?=some c/\VR M v c)/\(ro=false->b.1=b.2\/a.p_<=b.1/\a.iN=1)
def OR (M:Pm D) (o:AO D.E) (a:MI) (w:World):Prop:=match o with
 | .cells cs e ro=>(a.real/\a.sh=0/\a.p_=cs.length)/\N7 M a w cs e ro
 | .arr c xs e ro=>a.len=xs.length/\a.iN=D.size c/\(a.real->N7 M a w (aW c xs) e ro)
 | .tok c e=>a.iN=D.size c/\(a.real->∃C b,w.heap[a.bV]?=some (.cells C e b)/\C.size=a.p_/\a.sh+a.len*a.iN<=a.p_/\(b.1=b.2\/a.p_<=b.1/\a.iN=1))
def AO.wr {E:Nat->Type} (o:AO E):Bool:=match o with
 | .cells _ _ ro=>!ro
 | .arr _ _ _ ro=>!ro
 | .tok _ _=>true
def AO.sD {E:Nat->Type} (o:AO E) (a:MI) (j:Nat):Prop:=match o with
 | .tok _ _=>a.sh+a.len*a.iN<=j
 | _=>True
def N7.mono {d:Pm D} (n:Le M d) {cs:List (AV D.E)} {e:TypeId} {ro:Bool} {f:World} (hw:f.heap[c.bV]?=w.heap[c.bV]?) (h:N7 M c w cs e ro):N7 d c f cs e ro:=by
 have⟨C,g,h1,j,k,l,m⟩:=h;exact⟨C,g,hw.trans h1,j,k,λi v e=>let ⟨o,a,b⟩:=l i v e;⟨o,a,b.mono n⟩,m⟩
theorem OR.mono {d:Pm D} (f:Le M d) {g:World} (hw:c.real->g.heap[c.bV]?=w.heap[c.bV]?) (h:OR M o c w):OR d o c g:=by
 cases o with
 | cells cs e ro=>exact⟨h.1,h.2.mono f (hw h.1.1)⟩
 | arr b xs e ro=>exact⟨h.1,h.2.1,λa=>(h.2.2 a).mono f (hw a)⟩
 | tok b e=>exact⟨h.1,λa=>let ⟨C,i,h1,j⟩:=h.2 a;⟨C,i,(hw a).trans h1,j⟩⟩
theorem OR.lt (h:OR M o c w) (d:c.real):c.bV<w.heap.size:=by
 have:∃x,w.heap[c.bV]?=some x:=by
  cases o with
  | cells cs e ro=>have⟨_,C,b,h1,_⟩:=h;exact⟨_,h1⟩
  | arr a xs e ro=>have⟨C,b,h1,_⟩:=h.2.2 d;exact⟨_,h1⟩
  | tok a e=>have⟨C,b,h1,_⟩:=h.2 d;exact⟨_,h1⟩
 grind
abbrev Hp (D:Data):=Nat->Option (AO D.E)
structure dQ (M:Pm D) (H:Hp D) (w:World):Prop where
 obj:∀b o,H b=some o->∃mi,M.pl b=some mi/\OR M o mi w
 inj:∀b b' o o' mi N8,H b=some o->H b'=some o'->M.pl b=some mi->M.pl b'=some N8->mi.real=true->N8.real=true->mi.bV=N8.bV->b=b'
 gj:∀b o v,M.sg b o=some v->lS v=true/\∃v',w.cell? ⟨b,o,none⟩=some v'/\VR M v v'
 sep:∀b o mi,H b=some o->o.wr=true->M.pl b=some mi->mi.real=true->∀j,o.sD mi j->M.sg mi.bV j=none
 IZ:∀b c xs e mi,H b=some (.arr c xs e true)->M.pl b=some mi->mi.real=true->ct M mi.bV mi.sh c xs
 lM:(D.ng<=w.heap.size/\D.gw w)/\∀b o mi,H b=some o->o.wr=true->M.pl b=some mi->mi.real=true->D.ng<=mi.bV
def bT (M:Pm D) (lo hi:Nat):Prop:=∀b,lo<=b->b<hi->M.pl b=none
def Lv (H:Hp D) (M:Pm D) (c:Nat):Prop:=∃b o a,H b=some o/\o.wr/\M.pl b=some a/\a.real/\a.bV=c
structure cP (H:Hp D) (M:Pm D) (w:World) (H':Hp D) (M':Pm D) (w':World) (lo hi:Nat):Prop where
 fq:dQ M' H' w'
 ext:∀b,¬(lo<=b/\b<hi)->M'.pl b=M.pl b
 I0:Fu M M'
 kX:∀b o,M'.sg b o≠none->M.sg b o≠none\/w.heap.size<=b\/Lv H M b
 size:w.heap.size<=w'.heap.size
 aN:∀c,c<w.heap.size->¬Lv H M c->w'.heap[c]?=w.heap[c]?
 born:∀b o mi,H' b=some o->M'.pl b=some mi->mi.real=true->w.heap.size<=mi.bV\/∃b0 o0 qT,H b0=some o0/\M.pl b0=some qT/\qT.real=true/\qT.bV=mi.bV/\(o.wr=true->o0.wr=true)
 Lw:∀b,H' b≠none->H b≠none\/(lo<=b/\b<hi)
 os:w'.os=w.os
 tape:w'.tape=w.tape
 output:w'.output=w.output
 le:lo<=hi
section
variable {H H' H'':Hp D} {M M' M'':Pm D} {w w' w'':World} {lo mid hi:Nat}
variable {b o:Nat}
def cP.Le (h:cP H M w H' M' w' lo hi) (d:bT M lo hi):sx.Le M M':=⟨λb e a=>by
 rw[h.ext b (λc=>by rw[d b c.1 c.2] at a;cases a)];exact a,h.I0⟩
theorem cP.refl (h:dQ M H w) (lo:Nat):cP H M w H M w lo lo:=
 ⟨h,λ_ _=>rfl,λ_ _ _ h=>h,λ_ _ h=>.inl h,Zah _,λ_ _ _=>rfl,λb o e a c d=>.inr ⟨b,o,e,a,c,d,rfl,id⟩,λf a=>.inl a,rfl,rfl,rfl,Zah _⟩
def cP.wrt (h:cP H M w H' M' w' lo hi) (j:Lv H' M' b):w.heap.size<=b\/Lv H M b:=by
 obtain⟨c,o,p,i,m,l,n,rfl⟩:=j;rcases h.born c o p i l n with hs | ⟨g,q,f,a,d,e,k,hw⟩
 ·omega
 ·exact .inr ⟨g,q,f,a,hw m,d,e,k⟩
theorem cP.trans (h:cP H M w H' M' w' lo mid) (k:cP H' M' w' H'' M'' w'' mid hi):cP H M w H'' M'' w'' lo hi:=by
 have h1:=h.le;have m:=k.le;refine⟨k.fq,λb d=>?_,λb o v e=>k.I0 _ _ _ (h.I0 _ _ _ e),λb o d=>?_,Zav h.size k.size,λc l s=>?_,λb o y d q t=>?_,λb d=>?_,k.os.trans h.os,k.tape.trans h.tape,k.output.trans h.output,Zav h1 m⟩
 ·rw[k.ext b ω,h.ext b ω]
 ·rcases k.kX b o d with a | a | a
  ·exact h.kX b o a
  ·exact .inr (.inl (Zav h.size a))
  ·exact .inr (h.wrt a)
 ·rw[k.aN c (ZbB l h.size) λhw=>?_,h.aN c l s];rcases h.wrt hw with a | a
  ·omega
  ·grind
 ·rcases k.born b o y d q t with hs | ⟨b1,A,j,kP,g,i,p,x⟩
  ·exact .inl (Zav h.size hs)
  ·rcases h.born b1 A j kP g i with hs | ⟨B,D,z,n,r,u,C,hw⟩
   ·omega
   ·grind
 ·rcases k.Lw b d with kP | kP
  ·rcases h.Lw b kP with f | f
   ·grind
   ·omega
  ·omega
theorem cP.frame {K z:Hp D} (h:cP K M w z M' w' lo hi) (r:dQ M H w) (Z:bT M lo hi) (O:∀b o,K b=some o->H b=some o) (N:∀b,H' b=if K b=none/\z b=none then H b else z b):
  cP H M w H' M' w' lo hi:=by
 have k:=h.Le Z;have P:∀b o,H b=some o->∃a,M.pl b=some a:=λb o d=>let ⟨a,g,_⟩:=r.obj b o d;⟨a,g⟩
 have Q:∀c,Lv K M c->Lv H M c:=λc ⟨b,o,a,d,Y⟩=>⟨b,o,a,O _ _ d,Y⟩
 have p:∀b o,H' b=some o->(z b=some o)\/(K b=none/\z b=none/\H b=some o):=by
  grind
 have S:∀b o a,H b=some o->K b=none->M.pl b=some a->a.real->¬Lv K M a.bV:=by
  rintro b o a d hk g l ⟨n,u,i,s,_,m,q,e⟩;have:=r.inj n b u o i a (O _ _ s) d m g q l e;grind
 have hold:∀b o a,H b=some o->K b=none->M.pl b=some a->a.real->w'.heap[a.bV]?=w.heap[a.bV]?:=by
  intro b o a d hk g l;have⟨i,m,x⟩:=r.obj b o d;rw[g] at m;cases m;exact h.aN _ (x.lt l) (S b o a d hk g l)
 refine⟨⟨λb o d=>?_,λb n o u a i d s g m l q L=>?_,h.fq.gj,λb o a d x g l j V=>?_,λb c xs e a d g l=>?_,h.fq.lM.1,λb o a d x g l=>?_⟩,h.ext,h.I0,λb o d=>?_,h.size,λc R hn=>?_,λb o a d g l=>?_,λb d=>?_,h.os,h.tape,h.output,h.le⟩
 ·rcases p b o d with hk | ⟨hk,_,d⟩
  ·exact h.fq.obj b o hk
  ·have⟨a,g,x⟩:=r.obj b o d;exact⟨a,k.1 _ _ g,x.mono k (hold b o a d hk g)⟩
 ·have W:∀b n o u a i,z b=some o->(K n=none/\z n=none/\H n=some u)->M'.pl b=some a->M'.pl n=some i->a.real->i.real->a.bV=i.bV->b=n:=by
   intro b n o u a i hk ⟨hk1,hk2,s⟩ g m l q L;have⟨t,f,A⟩:=r.obj n u s;have:=k.1 _ _ f;rw[m] at this;cases this;rcases h.born b o a hk g l with hs | ⟨T,X,J,C,F,I,E,_⟩
   ·have:=A.lt q;omega
   ·have e2:=r.inj T n X u J i (O _ _ C) s F f I q (E.trans L);grind
  rcases p b o d with hk | hk<;>rcases p n u s with y | y
  ·exact h.fq.inj b n o u a i hk y g m l q L
  ·grind
  ·grind
  ·have⟨t,f,_⟩:=r.obj b o hk.2.2;have⟨mi3,G,_⟩:=r.obj n u y.2.2;have e2:=k.1 _ _ f;have U:=k.1 _ _ G;rw[g] at e2;rw[m] at U;cases e2;cases U;exact r.inj b n o u a i hk.2.2 y.2.2 f G l q L
 ·rcases p b o d with hk | ⟨hk,_,d⟩
  ·exact h.fq.sep b o a hk x g l j V
  ·have⟨t,f,A⟩:=r.obj b o d;have e2:=k.1 _ _ f;rw[g] at e2;cases e2;cases hs:M'.sg a.bV j with
   | none=>rfl
   | some v=>
    exfalso;rcases h.kX a.bV j (by grind) with B | B | B
    ·exact B (r.sep b o a d x f l j V)
    ·have:=A.lt l;omega
    ·grind
 ·rcases p b _ d with hk | ⟨hk,_,d⟩
  ·exact h.fq.IZ b c xs e a hk g l
  ·have⟨t,f⟩:=P b _ d;have e2:=k.1 _ _ f;rw[g] at e2;cases e2;exact(r.IZ b c xs e a d f l).mono k.2
 ·rcases p b o d with hk | ⟨hk,_,d⟩
  ·exact h.fq.lM.2 b o a hk x g l
  ·have⟨t,f⟩:=P b o d;have e2:=k.1 _ _ f;rw[g] at e2;cases e2;exact r.lM.2 b o a d x f l
 ·rcases h.kX b o d with B | B | B
  ·grind
  ·omega
  ·grind
 ·exact h.aN c R λhw=>hn (Q _ hw)
 ·rcases p b o d with hk | ⟨hk,_,d⟩
  ·rcases h.born b o a hk g l with hs | ⟨T,X,J,C,F,I,E,hw⟩
   ·omega
   ·grind
  ·have⟨t,f⟩:=P b o d;have e2:=k.1 _ _ f;grind
 ·rw[N b] at d;by_cases R:K b=none/\z b=none
  ·grind
  ·rw[Zaa R] at d;rcases h.Lw b d with hk | hk
   ·have⟨o,x⟩:=Zbs.1 hk;grind
   ·omega
theorem fN {w a:World} (h:a.heap[b]?=w.heap[b]?):a.cell? ⟨b,o,none⟩=w.cell? ⟨b,o,none⟩:=by
 grind [World.cell?]
theorem dQ.slt (a:dQ M H w) {v:AV D.E} (h:M.sg b o=some v):b<w.heap.size:=by
 have⟨_,d,c,_⟩:=a.gj b o v h;grind [World.cell?]
def cP.world (a:dQ M H w) (h1:w.heap.size<=w'.heap.size) (g:∀c,c<w.heap.size->w'.heap[c]?=w.heap[c]?) (m:w'.os=w.os) (n:w'.tape=w.tape) (p:w'.output=w.output) (lo:Nat):cP H M w H M w' lo lo:=
 ⟨⟨λb o d=>let ⟨k,i,l⟩:=a.obj b o d;⟨k,i,l.mono (.refl M) λj=>g _ (l.lt j)⟩,a.inj,λb o v e=>let ⟨q,s,f,r⟩:=a.gj b o v e;⟨q,s,(fN (g _ (a.slt e))).trans f,r⟩,a.sep,a.IZ,⟨Zav a.lM.1.1 h1,D.gst _ _ (λc f=>g c (ZbB f a.lM.1.1)) a.lM.1.2⟩,a.lM.2⟩,
  λ_ _=>rfl,λ_ _ _ h=>h,λ_ _ h=>.inl h,h1,λc f _=>g c f,λb o k d i j=>.inr ⟨b,o,k,d,i,j,rfl,id⟩,λt d=>.inl d,m,n,p,Zah _⟩
def cP.uL (a:dQ M H w) (lo:Nat):cP H M w H M w.drew lo lo:=.world (w':=w.drew) a (Zah _) (λ_ _=>rfl) rfl rfl rfl lo
def iI (H:Hp D) (b:Nat) (o:Option (AO D.E)):Hp D:=λc=>if c=b then o else H c
def Pm.add (M:Pm D) (b:Nat) (mi:MI):Pm D:=⟨λc=>if c=b then some mi else M.pl c,M.sg⟩
def Pm.qk {mi:MI} (d:M.pl b=none):sx.Le M (M.add b mi):=⟨λc m a=>by
 show(if c=b then some mi else M.pl c)=some m
 by_cases e:c=b
 ·subst e;rw[d] at a;cases a
 ·rw[Zaa e];exact a,λ_ _ _ h=>h⟩
theorem cP.mQ (a:dQ M H w) (C:M.pl lo=none) (o:AO D.E) (mi:MI) (t:mi.real->mi.bV=w.heap.size) (da:w.heap.size<=w'.heap.size) (hblk:∀c,c<w.heap.size->w'.heap[c]?=w.heap[c]?)
  (x:w'.os=w.os) (y:w'.tape=w.tape) (z:w'.output=w.output) (I:OR (M.add lo mi) o mi w')
  (L:∀c xs e,o=.arr c xs e true->mi.real->ct (M.add lo mi) mi.bV mi.sh c xs:=by intro _ _ _ h;cases h):
  cP H M w (iI H lo (some o)) (M.add lo mi) w' lo (lo+1):=by
 have f:sx.Le M (M.add lo mi):=Pm.qk C;have k:∀m,(M.add lo mi).pl lo=some m->m=mi:=λm h=>by grind [Pm.add]
 have hold:∀b m,b≠lo->(M.add lo mi).pl b=some m->M.pl b=some m:=λb m e h=>by grind [Pm.add]
 refine⟨⟨λb i h=>?_,λb r O P m1 m2 h1 s u e2 Q R B=>?_,λb i v e=>?_,λb i m h hw e d j F=>?_,λb c xs e m h n d=>?_,⟨Zav a.lM.1.1 da,D.gst _ _ (λc l=>hblk c (ZbB l a.lM.1.1)) a.lM.1.2⟩,λb i m h hw e d=>?_⟩,λb A=>?_,f.2,λb i h=>.inl h,da,λc l _=>hblk c l,λb i m h e d=>?_,λb h=>?_,x,y,z,ZcR _⟩
 ·by_cases e:b=lo
  ·subst e;simp only[iI] at h;cases h;exact⟨mi,by simp[Pm.add],I⟩
  ·simp only[iI,Zaa e] at h;have⟨m,n,g⟩:=a.obj b i h;exact⟨m,f.1 _ _ n,g.mono f λd=>hblk _ (g.lt d)⟩
 ·have G:∀b o m,b≠lo->H b=some o->M.pl b=some m->m.real->mi.real->m.bV≠mi.bV:=λb o m e h n d K=>by
   have⟨T,p,g⟩:=a.obj b o h;rw[n] at p;cases p;have:=g.lt d;grind
  by_cases e:b=lo<;>by_cases q:r=lo
  ·rw[e,q]
  ·grind [iI]
  ·grind [iI]
  ·simp only[iI,Zaa e,Zaa q] at h1 s;exact a.inj b r O P m1 m2 h1 s (hold _ _ e u) (hold _ _ q e2) Q R B
 ·have⟨J,S,l,N⟩:=a.gj b i v e;exact⟨J,S,(fN (hblk _ (a.slt e))).trans l,N.mono f⟩
 ·by_cases e2:b=lo
  ·subst e2;have:=k _ e;subst this;cases hs:M.sg m.bV j with
   | none=>exact hs
   | some v=>have:=a.slt hs;have:=t d;omega
  ·simp only[iI,Zaa e2] at h;exact a.sep b i m h hw (hold _ _ e2 e) d j F
 ·by_cases e2:b=lo
  ·grind [iI]
  ·simp only[iI,Zaa e2] at h;exact(a.IZ b c xs e m h (hold _ _ e2 n) d).mono f.2
 ·by_cases e2:b=lo
  ·subst e2;have:=k _ e;subst this;rw[t d];exact a.lM.1.1
  ·simp only[iI,Zaa e2] at h;exact a.lM.2 b i m h hw (hold _ _ e2 e) d
 ·show(if b=lo then some mi else M.pl b)=M.pl b
  grind
 all_goals grind [iI]
theorem cP.alloc (b:dQ M H w) (g:M.pl lo=none) (o:AO D.E) (ob:Obj) (mi:MI) (d:mi.bV=w.heap.size) (i:OR (M.add lo mi) o mi (w.alloc ob))
  (a:∀c xs e,o=.arr c xs e true->mi.real->ct (M.add lo mi) mi.bV mi.sh c xs:=by intro _ _ _ h;cases h):
  cP H M w (iI H lo (some o)) (M.add lo mi) (w.alloc ob) lo (lo+1):=
 cP.mQ b g o mi (λ_=>d) (by simp) (λc f=>Below.heap_alloc _ _ _ f) rfl rfl rfl i a
theorem cP.upon {b0 b1:Nat} {o0 o1:AO D.E} {qT A2:MI} {M1:Pm D} {sg1:Nat->Nat->Option (AV D.E)} (i:dQ M H w) (y:H b0=some o0) (t:o0.wr) (A:M.pl b0=some qT) (l:qT.real) (hr1:A2.real) (hblk:A2.bV=qT.bV)
  (r:M1=⟨λc=>if c=b1 then some A2 else M.pl c,sg1⟩)
  (Z:(b1=b0/\A2=qT/\hi=lo)\/(b1=lo/\M.pl lo=none/\hi=lo+1))
  (B:∀b o v,M.sg b o=some v->sg1 b o=some v) (k:∀b o,sg1 b o≠none->M.sg b o≠none\/b=qT.bV)
  (da:w'.heap.size=w.heap.size) (hk:∀c,c≠qT.bV->w'.heap[c]?=w.heap[c]?) (U:w'.os=w.os) (V:w'.tape=w.tape) (W:w'.output=w.output)
  (ho:OR M1 o1 A2 w') (hse:∀o v,sg1 qT.bV o=some v->lS v/\∃C,w'.cell? ⟨qT.bV,o,none⟩=some C/\VR M1 v C) (R:o1.wr->∀j,o1.sD A2 j->sg1 A2.bV j=none)
  (hro:∀c xs e,o1=.arr c xs e true->ct M1 A2.bV A2.sh c xs:=by intro _ _ _ h;cases h):
  cP H M w (λc=>if c=b1 then some o1 else if c=b0 then none else H c) M1 w' lo hi:=by
 have Q:b1≠b0->M.pl b1=none:=λe=>by
  grind
 have g:sx.Le M M1:=by
  subst r;refine⟨λc m z=>?_,B⟩;grind
 have J:∀m,M1.pl b1=some m->m=A2:=λm h=>by simp_all
 have d:∀c m,c≠b1->M1.pl c=some m->M.pl c=some m:=λc m e h=>by subst r;simpa [e] using h
 have f:∀c a,c≠b1->(if c=b1 then some o1 else if c=b0 then none else H c)=some a->H c=some a/\c≠b0:=λc a e h=>by
  grind
 have N:∀c a m,H c=some a->c≠b0->M.pl c=some m->m.real->m.bV≠qT.bV:=λc a m h e s p K=>e (i.inj c b0 a o0 m qT h y s A p l K)
 have n:M1.sg=sg1:=by grind
 refine⟨⟨λc a h=>?_,λc F p1 p2 m1 m2 h1 I S e2 r1 r2 K=>?_,λb o v e=>?_,λc a m h hw e p j X=>?_,λb c xs e m h L p=>?_,⟨by rw[da];exact i.lM.1.1,D.gst _ _ (λc z=>hk c (λq=>by have:=i.lM.2 b0 o0 qT y t A l;omega)) i.lM.1.2⟩,λc a m h hw e p=>?_⟩,λc z=>?_,g.2,λb o h=>?_,Zd1 da.symm,λc z Y=>hk c λe=>Y ⟨b0,o0,qT,y,t,A,l,e.symm⟩,λc a m h e p=>?_,λc h=>?_,U,V,W,?_⟩
 ·by_cases e:c=b1
  ·rw[Zac e] at h;cases h;exact⟨A2,by subst r;simp[e],ho⟩
  ·have⟨h1,I⟩:=f c a e h;have⟨m,s,O⟩:=i.obj c a h1;exact⟨m,g.1 _ _ s,O.mono g λp=>hk _ (N c a m h1 I s p)⟩
 ·by_cases e:c=b1<;>by_cases G:F=b1
  ·rw[e,G]
  ·grind
  ·grind
  ·have⟨q1,P⟩:=f c p1 e h1;have⟨q3,q4⟩:=f F p2 G I;exact i.inj c F p1 p2 m1 m2 q1 q3 (d _ _ e S) (d _ _ G e2) r1 r2 K
 ·rw[n] at e;by_cases T:b=qT.bV
  ·grind
  ·rcases k b o (by grind) with x | x
   ·have⟨u,hu⟩:=Zbs.1 x;have:=B _ _ _ hu;rw[e] at this;cases this;have⟨hp,C,z,hv⟩:=i.gj b o v hu;exact⟨hp,C,(fN (hk _ T)).trans z,hv.mono g⟩
   ·omega
 ·rw[n];by_cases e2:c=b1
  ·grind
  ·have⟨q1,P⟩:=f c a e2 h;cases hs:sg1 m.bV j with
   | none=>rfl
   | some v=>
    exfalso;rcases k m.bV j (by grind) with x | x
    ·exact x (i.sep c a m q1 hw (d _ _ e2 e) p j X)
    ·grind
 ·by_cases e2:b=b1
  ·grind
  ·have⟨q1,P⟩:=f b _ e2 h;exact(i.IZ b c xs e m q1 (d _ _ e2 L) p).mono g.2
 ·by_cases e2:c=b1
  ·subst e2;have:=J _ e;subst this;rw[hblk];exact i.lM.2 b0 o0 qT y t A l
  ·have⟨q1,P⟩:=f c a e2 h;exact i.lM.2 c a m q1 hw (d _ _ e2 e) p
 ·subst r;grind
 ·rw[n] at h;rcases k b o h with x | x
  ·grind
  ·exact .inr (.inr ⟨b0,o0,qT,y,t,A,l,x.symm⟩)
 ·grind
 ·grind
 ·omega
theorem cP.drop (g:dQ M H w) (lo:Nat):cP H M w (iI H b none) M w lo lo:=by
 have d:∀a f,iI H b none a=some f->H a=some f:=λa f h=>by
  grind [iI]
 exact⟨⟨λa f h=>g.obj a f (d a f h),λa i n f m1 m2 h1 j=>g.inj a i n f m1 m2 (d _ _ h1) (d _ _ j),g.gj,λa f m h=>g.sep a f m (d _ _ h),λa c xs e m h=>g.IZ a c xs e m (d _ _ h),g.lM.1,λa f m h=>g.lM.2 a f m (d _ _ h)⟩,λ_ _=>rfl,λ_ _ _ h=>h,λ_ _ h=>.inl h,Zah _,λ_ _ _=>rfl,
  λa f m h e l=>.inr ⟨a,f,m,d _ _ h,e,l,rfl,id⟩,λa h=>.inl (by have⟨o,k⟩:=Zbs.1 h;rw[d _ _ k];simp),rfl,rfl,rfl,Zah _⟩
def dQ.sub {K:Hp D} (h:dQ M H w) (f:∀b o,K b=some o->H b=some o):dQ M K w:=
 ⟨λb o a=>h.obj b o (f b o a),λb j o k d i a g=>h.inj b j o k d i (f _ _ a) (f _ _ g),h.gj,λb o d a=>h.sep b o d (f _ _ a),λb c xs e d a=>h.IZ b c xs e d (f _ _ a),h.lM.1,λb o d a=>h.lM.2 b o d (f _ _ a)⟩
end
end
variable {k:IntKind} {x:Int} {m:Nat}
theorem ql (x y:Int):V6 x y=(x==y):=by
 cases x<;>cases y<;>rw[ZaG]<;>simp[V6,-Int.ofNat_eq_natCast]<;>try exact ZbW
theorem Fv (x y:Int):Wj x y=decide (x<y):=by
 rw[ZaG,ZbP];cases x with
 | ofNat a=>cases y with
  | ofNat b=>show Nat.ble (a+1) b↔_;rw[cm];simp;omega
  | negSucc b=>simp[Wj];omega
 | negSucc a=>cases y with
  | ofNat b=>simp[Wj];omega
  | negSucc b=>show Nat.ble (b+1) a↔_;rw[cm];omega
theorem fE {b:IntKind}:AI k b↔k=b:=by
 cases k<;>cases b<;>decide
theorem fO {v:CV}:Fb k x=some v↔v=.num k x:=by
 cases x with
 | ofNat m=>cases m with
  | zero=>exact⟨λh=>by cases(show some (CV.num k (.ofNat 0))=some v from h);rfl,λh=>by rw[h];rfl⟩
  | succ m=>exact⟨λh=>by cases(show some (CV.num k (.ofNat (m+1)))=some v from h);rfl,λh=>by rw[h];rfl⟩
 | negSucc m=>cases m with
  | zero=>exact⟨λh=>by cases(show some (CV.num k (.negSucc 0))=some v from h);rfl,λh=>by rw[h];rfl⟩
  | succ m=>exact⟨λh=>by cases(show some (CV.num k (.negSucc (m+1)))=some v from h);rfl,λh=>by rw[h];rfl⟩
theorem rb {v:CV}:mkN m=some v↔v=.num .i64 (m:Int):=by
 cases m with
 | zero=>exact⟨λh=>by cases(show some (CV.num .i64 (.ofNat 0))=some v from h);rfl,λh=>by rw[h];rfl⟩
 | succ n=>exact⟨λh=>by cases(show some (CV.num .i64 (.ofNat (n+1)))=some v from h);rfl,λh=>by rw[h];rfl⟩
theorem I9 (k:IntKind) (n:Int) (h1: -(kLo k:Int)<=n) (a:n<=(kHi k:Int)):k.wrap n=n:=by
 cases k<;>simp only[kLo,kHi] at h1 a
 ·grind [IntWalk.i8_in]
 ·grind [IntWalk.i16_in]
 ·grind [IntWalk.i32_in]
 ·grind [IntWalk.i64_in]
 ·grind [IntWalk.u8_in]
 ·grind [IntWalk.u16_in]
 ·grind [IntWalk.u32_in]
 ·grind [IntWalk.u64_in]
theorem jg (k:IntKind) (n:Int):qV k n=k.wrap n:=by
 cases n with
 | ofNat m=>
  show Bool.rec (motive:=λ_=>Int) (k.wrap (.ofNat m)) (.ofNat m) (Nat.ble m (kHi k))=_
  cases h:Nat.ble m (kHi k)
  ·rfl
  ·grind [cm,I9]
 | negSucc m=>
  show Bool.rec (motive:=λ_=>Int) (k.wrap (.negSucc m)) (.negSucc m) (Nat.ble (m+1) (kLo k))=_
  cases h:Nat.ble (m+1) (kLo k)
  ·rfl
  ·grind [cm,I9]
def I' (k:IntKind):t_ k=2 ^ k.bits:=by cases k<;>rfl
theorem j_ (k:IntKind) (n:Int):Co k n=(BitVec.ofInt k.bits n).toNat:=by
 rw[BitVec.toNat_ofInt];cases n with
 | ofNat m=>
  show Nat.mod m (t_ k)=_
  rw[I'];rfl
 | negSucc m=>
  show Nat.sub (Nat.sub (t_ k) 1) (Nat.mod m (t_ k))=_
  have a:0<2 ^ k.bits:=Nat.two_pow_pos _;have b:m % 2 ^ k.bits<2 ^ k.bits:=Zc4 _ a;rw[I'];show 2 ^ k.bits-1-m % 2 ^ k.bits=_
  have e:(Int.negSucc m) % ((2 ^ k.bits:Nat):Int)=((2 ^ k.bits-1-m % 2 ^ k.bits:Nat):Int):=by
   rw[Int.negSucc_emod _ ω];omega
  omega
theorem A3 (a b:Nat):On a b=min a b:=by
 show Bool.rec (motive:=λ_=>Nat) b a (Nat.ble a b)=_
 cases h:Nat.ble a b
 ·grind [CB]
 ·simp_all
def N9 (v:CV):Value:=match v with
 | .num k n=>.int k n
 | .lit b=>.bool b
theorem cE:iY k x↔Ch k<=x/\x<=sw k:=by simp[iY,aH]
theorem cB (k:IntKind) (n:Int):iY k (k.wrap n):=by
 rw[cE];cases k<;>simp only[Ch,sw,IntKind.wrap,IntKind.bits,IntKind.signed]<;>simp<;>(try split)<;>omega
theorem dw (h:iY k x):k.wrap x=x:=by
 rw[cE] at h;cases k<;>simp only[Ch,sw] at h
 ·exact IntWalk.i8_in x h
 ·exact IntWalk.i16_in x h
 ·exact IntWalk.i32_in x h
 ·exact IntWalk.i64_in x h
 ·exact IntWalk.u8_in x h
 ·exact IntWalk.u16_in x h
 ·exact IntWalk.u32_in x h
 ·exact IntWalk.u64_in x h
theorem iZ (h:m<=9223372036854775807):iY .i64 (m:Int):=by grind [cE,Ch,sw]
def re (b:UInt8):iY .u8 (b.toNat:Int):=by rw[cE];simp only[Ch,sw];have:=b.toNat_lt;omega
theorem CE {y:Int} (h:iY k x):iY k (Int.tmod x y):=by
 rw[cE] at*
 have h0:Ch k<=0/\0<=sw k:=by cases k<;>simp[Ch,sw]
 rcases Int.le_total 0 x with b | b
 ·have h1:=Int.tmod_nonneg y b;have d:Int.tmod x y<=x:=by
   rcases Int.natAbs_eq y with a | a
   ·rw[a,Zcc b];rcases ZbO y.natAbs with h0 | h0
    ·grind
    ·have:=ZcM x (show(0:Int)<y.natAbs by omega);by_cases c:x<y.natAbs
     ·grind [Int.emod_eq_of_lt]
     ·omega
   ·rw[a,Int.tmod_neg,Zcc b];rcases ZbO y.natAbs with h0 | h0
    ·grind
    ·have:=ZcM x (show(0:Int)<y.natAbs by omega);by_cases c:x<y.natAbs
     ·grind [Int.emod_eq_of_lt]
     ·omega
  omega
 ·obtain⟨z,rfl⟩:∃z,x= -z:=⟨-x,ω⟩;rw[Int.neg_tmod];have hz:0<=z:=ω;have h1:=Int.tmod_nonneg y hz;have d:Int.tmod z y<=z:=by
   rcases Int.natAbs_eq y with a | a
   ·rw[a,Zcc hz];rcases ZbO y.natAbs with h0 | h0
    ·grind
    ·have:=ZcM z (show(0:Int)<y.natAbs by omega);by_cases c:z<y.natAbs
     ·grind [Int.emod_eq_of_lt]
     ·omega
   ·rw[a,Int.tmod_neg,Zcc hz];rcases ZbO y.natAbs with h0 | h0
    ·grind
    ·have:=ZcM z (show(0:Int)<y.natAbs by omega);by_cases c:z<y.natAbs
     ·grind [Int.emod_eq_of_lt]
     ·omega
  omega
theorem I_ (h:iY k x) (h0:0<=x):iY k (x / 2 ^ m):=by
 rw[cE] at*
 have h1:0<=x / 2 ^ m:=Int.ediv_nonneg h0 (by grind);have a:x / 2 ^ m<=x:=Int.ediv_le_self _ h0;have b:Ch k<=0:=by cases k<;>simp[Ch]
 omega
section
variable {P:Program} {D:Data} {M:Pm D}
variable {Z:BinOp} {k d:IntKind} {v:CV} {x y:Int} {Y:AV D.E}
theorem QeQ (h:∀k n,v=.num k n->iY k n):VR M (vA v:AV D.E) (N9 v):=by
 cases v with
 | num k n=>exact .num (h k n rfl)
 | lit b=>exact .lit b
theorem OZ (h:(Wq D Z k x y).H Y) (i:iY k x) (T:TypeId) (h1:Z≠.shl) (f:Z≠.shr):
  ∃d,(∀w,(binOp Z T (.int k x) (.int k y)).run P w=.ok d w)/\VR M Y d:=by
 cases Z<;>simp only[Wq] at h<;>(try exact absurd rfl h1)<;>(try exact absurd rfl f)<;>(try exact h.elim)
 case add=>cases au.1 h;exact⟨_,λw=>by simp[binOp,Op.intArith];rfl,.int (cB _ _)⟩
 case sub=>cases au.1 h;exact⟨_,λw=>by simp[binOp,Op.intArith];rfl,.int (cB _ _)⟩
 case mul=>cases au.1 h;exact⟨_,λw=>by simp[binOp,Op.intArith];rfl,.int (cB _ _)⟩
 case quo=>
  obtain⟨h0,h⟩:=cT.1 h;cases au.1 h;have c:y≠0:=by grind [aC]
  exact⟨_,λw=>by simp[binOp,Op.intDiv,c];rfl,.int (cB _ _)⟩
 case rem=>
  obtain⟨h0,h⟩:=cT.1 h;cases au.1 h;have c:y≠0:=by grind [aC]
  exact⟨_,λw=>by simp[binOp,Op.intDiv,c];rfl,.int (CE i)⟩
 case and=>cases au.1 h;exact⟨.int k (k.wrap ((BitVec.ofInt k.bits x&&& BitVec.ofInt k.bits y).toNat:Int)),λw=>by grind [binOp,Op.intBits,Sem.run_pure],by rw[BitVec.toNat_and,<-j_,<-j_];exact .int (cB _ _)⟩
 case or=>cases au.1 h;exact⟨.int k (k.wrap ((BitVec.ofInt k.bits x||| BitVec.ofInt k.bits y).toNat:Int)),λw=>by grind [binOp,Op.intBits,Sem.run_pure],by rw[BitVec.toNat_or,<-j_,<-j_];exact .int (cB _ _)⟩
 case xor=>cases au.1 h;exact⟨.int k (k.wrap ((BitVec.ofInt k.bits x ^^^ BitVec.ofInt k.bits y).toNat:Int)),λw=>by grind [binOp,Op.intBits,Sem.run_pure],by rw[Zdu,<-j_,<-j_];exact .int (cB _ _)⟩
 all_goals
  cases au.1 h;refine⟨_,λw=>by simp only[binOp,Op.intCmp,ne_eq,Zce,Za0,Zzc];rfl,?_⟩;have g:∀a b:Bool,a=b->VR M (.bool a:AV D.E) (.bool b):=λa b e=>e▸.bool a
  apply g;rfl
theorem CF (h:(Wr D Z k d x y).H Y) (f:iY k x) (T:TypeId):
  ∃g,(∀w,(binOp Z T (.int k x) (.int d y)).run P w=.ok g w)/\VR M Y g:=by
 by_cases h1:Z=.shl
 ·subst h1;obtain⟨h0,a⟩:=cT.1 (show(ask (aH 0 y) _).H Y from h);cases au.1 a;have:¬y<0:=by grind [aH]
  exact⟨_,λw=>by simp only[binOp,Op.shift,Zaa this,Zzc];rfl,.int (cB _ _)⟩
 ·by_cases a:Z=.shr
  ·subst a;obtain⟨h0,b⟩:=cT.1 (show(ask (aH 0 y) _).H Y from h);obtain⟨l,j⟩:=cT.1 (show(ask (aH 0 x) _).H Y from b);cases au.1 j;have:¬y<0:=by grind [aH]
   have c:0<=x:=by grind [aH]
   refine⟨.int k (x.fdiv (2 ^ min y.toNat k.bits)),λw=>by grind [binOp,Op.shift,Sem.run_pure],?_⟩;rw[Zdi _ (by grind)];exact .int (I_ f c)
  ·have i:(bB (AI k d) (Wq D Z k x y)).H Y:=by
    cases Z<;>first | exact h | exact absurd rfl h1 | exact absurd rfl a
   obtain⟨e,b⟩:=bw.1 i;obtain rfl:=fE.1 e;exact OZ b f T h1 a
theorem pd {n:Nat} (h:Lp k n=some v):v=.num k (k.wrap n):=by
 grind [Lp,fO,jg]
theorem O0 (h:Wl Z k x y=some v) (c:iY k x) (T:TypeId) (h1:Z≠.shl) (b:Z≠.shr):
  (∀w,(binOp Z T (.int k x) (.int k y)).run P w=.ok (N9 v) w)/\∀a n,v=.num a n->iY a n:=by
 cases Z<;>simp only[Wl] at h<;>(try cases h)<;>(try exact absurd rfl h1)<;>(try exact absurd rfl b)
 case add=>rw[fO,jg] at h;subst h;exact⟨λw=>by simp[binOp,Op.intArith,N9],λ_ _ e=>by grind [cB]⟩
 case sub=>rw[fO,jg] at h;subst h;exact⟨λw=>by simp[binOp,Op.intArith,N9];rfl,λ_ _ e=>by grind [cB]⟩
 case mul=>rw[fO,jg] at h;subst h;exact⟨λw=>by simp[binOp,Op.intArith,N9],λ_ _ e=>by grind [cB]⟩
 case quo=>
  rw[A1] at h;rcases h with⟨_,h⟩ | ⟨h0,h⟩
  ·cases h
  ·rw[fO,jg] at h;subst h;rw[ql] at h0;have:y≠0:=by grind
   exact⟨λw=>by simp[binOp,Op.intDiv,this,N9],λ_ _ e=>by grind [cB]⟩
 case rem=>
  rw[A1] at h;rcases h with⟨_,h⟩ | ⟨h0,h⟩
  ·cases h
  ·rw[fO] at h;subst h;rw[ql] at h0;have:y≠0:=by grind
   exact⟨λw=>by simp[binOp,Op.intDiv,this,N9],λ_ _ e=>by grind [CE]⟩
 case and=>have:=pd h;subst this;exact⟨λw=>by simp[binOp,Op.intBits,N9,j_,BitVec.toNat_and];try rfl,λ_ _ e=>by grind [cB]⟩
 case or=>have:=pd h;subst this;exact⟨λw=>by simp[binOp,Op.intBits,N9,j_,BitVec.toNat_or];try rfl,λ_ _ e=>by grind [cB]⟩
 case xor=>have:=pd h;subst this;exact⟨λw=>by simp[binOp,Op.intBits,N9,j_,Zdu];try rfl,λ_ _ e=>by grind [cB]⟩
 all_goals
  refine⟨λw=>?_,λ_ _ e=>by cases e⟩
  (simp[binOp,Op.intCmp,N9,ql,Fv];try rw[ZaG];try simp;try omega)
theorem Fw (h:AJ Z k d x y=some v) (f:iY k x) (T:TypeId):
  (∀w,(binOp Z T (.int k x) (.int d y)).run P w=.ok (N9 v) w)/\∀k2 n,v=.num k2 n->iY k2 n:=by
 by_cases h1:Z=.shl
 ·subst h1;simp only[AJ] at h;cases y with
  | negSucc m=>cases h
  | ofNat m=>
   simp only[Qer] at h;rw[fO,jg,A3] at h;subst h;refine⟨λw=>?_,λ_ _ e=>by grind [cB]⟩;rfl
 ·by_cases a:Z=.shr
  ·subst a;simp only[AJ] at h;cases y with
   | negSucc m=>cases h
   | ofNat m=>
    cases x with
    | negSucc x=>cases h
    | ofNat x=>
     simp only[Qes] at h;rw[fO,A3] at h;subst h;have e:Int.fdiv (Int.ofNat x) (2 ^ min (Int.ofNat m).toNat k.bits)=Int.ofNat (Nat.div x (Nat.pow 2 (min m k.bits))):=by
      show Int.fdiv (Int.ofNat x) (2 ^ min m k.bits)=_
      rw[show(2:Int) ^ min m k.bits=((2 ^ min m k.bits:Nat):Int) by simp,Zdi _ (ZaF _)];rfl
     refine⟨λw=>?_,λk2 n e2=>?_⟩
     ·have:¬((m:Int)<0):=ω;simp only[binOp,Op.shift];rw[Zaa (by simp),e];rfl
     ·grind [I_]
  ·have c:oI (AI k d) (Wl Z k x y)=some v:=by
    cases Z<;>first | exact h | exact absurd rfl h1 | exact absurd rfl a
   obtain⟨e,b⟩:=kV.1 c;obtain rfl:=fE.1 e;exact O0 b f T h1 a
theorem bytesLess_eq:∀(x y:List UInt8),Op.bytesLess x y=decide (x<y)
 | [],[]=>by rfl
 | [],_::_=>by rfl
 | _::_,[]=>by rfl
 | a::x,b::y=>by
  show(a<b||(a==b&&Op.bytesLess x y))=_
  rw[bytesLess_eq x y,ZaG];simp[List.cons_lt_cons_iff]
theorem Fy {x y:List UInt8} (h:(AL D Z x y).H Y) (T:TypeId):∃d,(∀w,(binOp Z T (.string ⟨⟨x⟩⟩) (.string ⟨⟨y⟩⟩)).run P w=.ok d w)/\VR M Y d:=by
 have hl:∀z:List UInt8,(⟨⟨z⟩⟩:ByteArray).toList=z:=λz=>by
  simp_all
 have c:∀a b:List UInt8,Bool.not (decide (b<a))=(decide (a<b)||(a==b)):=λa b=>by
  grind
 cases Z<;>simp only[AL] at h<;>(try exact h.elim)
 case add=>
  obtain⟨h0,h⟩:=cT.1 h;cases au.1 h;have h1:x.length+y.length<=9223372036854775807:=by
   have:((yi x y).length:Int)<=9223372036854775807:=ZaH h0;grind [yi]
  refine⟨.string ⟨⟨x++y⟩⟩,λw=>?_,.str (by grind [yi])⟩;have hs:¬((((⟨⟨x⟩⟩:ByteArray).size+(⟨⟨y⟩⟩:ByteArray).size:Nat):Int)>IntKind.i64.max):=by
   show ¬(((x.length+y.length:Nat):Int)>9223372036854775807)
   omega
  have g:(⟨⟨x⟩⟩:ByteArray)++⟨⟨y⟩⟩=⟨⟨x++y⟩⟩:=by
   rfl
  grind [binOp,Op.stringOp,Sem.run_pure]
 all_goals
  cases au.1 h;refine⟨_,λw=>by simp only[binOp,Op.stringOp,Zzc,hl,bytesLess_eq];rfl,?_⟩;have f:∀a b:Bool,a=b->VR M (.bool a:AV D.E) (.bool b):=λa b e=>e▸.bool a
  apply f;simp only[seq,slt]<;>first | rfl | (rw[ZaG];simp;done) | exact c _ _ | (rw[<-c];simp)
end
end sx
end Go.Proofs.YtklaonhcplaofaaGreat
