/- StreamAgain: a part of the proof. -/
import Derived.Orders
import Derived.Below
import Derived.Deep.AppendSrc
import Derived.Laws.Entries
import Derived.Laws.IdiomCopy
import Derived.IntWalk
import Derived.Lib.ConvBytes
import Derived.Laws.StructEq
import Derived.Laws.Tables
import Derived.Test.YtfkmlhnhkdbjeaaGreatCA
set_option linter.all false
namespace Go.Proofs.YtfkmlhnhkdbjeaaGreat
namespace sx
open Go
noncomputable section
def oB {α β:Type} (x:Option α) (f:α->Option β):Option β:=Option.rec (motive:=λ_=>Option β) none f x
def oI {β:Type} (b:Bool) (x:Option β):Option β:=Bool.rec (motive:=λ_=>Option β) none x b
def oE {β:Type} (b:Bool) (x y:Option β):Option β:=Bool.rec (motive:=λ_=>Option β) y x b
inductive C (α:Type) where
 | ret (a:α)
 | fail
 | fQ (p:Prop) (x:C α)
 | split (b:Bool) (x y:C α)
def aB {α β:Type} (x:C α) (f:α->C β):C β:=
 C.rec (motive:=λ_=>C β) f .fail (λp _ d=>.fQ p d) (λb _ _ a c=>.split b a c) x
def aP {α β a:Type} (x:C (α×β)) (f:α->β->C a):C a:=aB x λp=>Prod.rec (motive:=λ_=>C a) f p
def bB {β:Type} (b:Bool) (x:C β):C β:=Bool.rec (motive:=λ_=>C β) .fail x b
def bE {β:Type} (b:Bool) (x y:C β):C β:=Bool.rec (motive:=λ_=>C β) y x b
def dg {α:Type} (x:Option α):C α:=Option.rec (motive:=λ_=>C α) .fail (λa=>.ret a) x
def ask {β:Type} (b:Bool) (x:C β):C β:=.fQ (b) x
def C.wp {α:Type} (x:C α) (K:α->Prop):Prop:=
 C.rec (motive:=λ_=>Prop) K False (λp _ c=>p/\c) (λb _ _ h1 a=>(b->h1)/\(b=false->a)) x
def C.H {α:Type} (x:C α) (v:α):Prop:=
 C.rec (motive:=λ_=>Prop) (λa=>a=v) False (λp _ d=>p/\d) (λb _ _ h1 c=>(b/\h1)\/(b=false/\c)) x
inductive T (α:Type) where
 | nil
 | node (v:Option α) (l r:T α)
def T.get {α:Type} (t:T α):Nat->Option α:=
 T.rec (motive:=λ_=>Nat->Option α) (λ_=>none)
  (λv _ _ gl gr k=>Nat.rec (motive:=λ_=>Option α) v
   (λk _=>Nat.rec (motive:=λ_=>Option α) (gl (Nat.div k (nat_lit 2))) (λ_ _=>gr (Nat.div k (nat_lit 2))) (Nat.mod k (nat_lit 2))) k) t
def T.mk1 {α:Type} (n:Nat):Nat->Option α->Option (T α):=
 Nat.rec (motive:=λ_=>Nat->Option α->Option (T α)) (λ_ _=>none)
  (λ_ b k a=>Nat.rec (motive:=λ_=>Option (T α)) (some (.node a .nil .nil))
   (λk _=>Nat.rec (motive:=λ_=>Option (T α)) (oB (b (Nat.div k (nat_lit 2)) a) λl=>some (.node none l .nil))
    (λ_ _=>oB (b (Nat.div k (nat_lit 2)) a) λr=>some (.node none .nil r)) (Nat.mod k (nat_lit 2))) k) n
def T.put {α:Type} (t:T α):Nat->Option α->Option (T α):=
 T.rec (motive:=λ_=>Nat->Option α->Option (T α)) (λk a=>T.mk1 (nat_lit 64) k a)
  (λv l r pl c k a=>Nat.rec (motive:=λ_=>Option (T α)) (some (.node a l r))
   (λk _=>Nat.rec (motive:=λ_=>Option (T α)) (oB (pl (Nat.div k (nat_lit 2)) a) λb=>some (.node v b r))
    (λ_ _=>oB (c (Nat.div k (nat_lit 2)) a) λd=>some (.node v l d)) (Nat.mod k (nat_lit 2))) k) t
def Zg (x y:Int):Bool:=match x with
 | .ofNat a=>match y with
  | .ofNat b=>Nat.beq a b
  | .negSucc _=>false
 | .negSucc a=>match y with
  | .ofNat _=>false
  | .negSucc b=>Nat.beq a b
def Zq (x y:Int):Bool:=match x with
 | .ofNat a=>match y with
  | .ofNat b=>Nat.ble (Nat.succ a) b
  | .negSucc _=>false
 | .negSucc a=>match y with
  | .ofNat _=>true
  | .negSucc b=>Nat.ble (Nat.succ b) a
def kIx:IntKind->Nat
 | .i8=>nat_lit 0 | .i16=>nat_lit 1 | .i32=>nat_lit 2 | .i64=>nat_lit 3 | .u8=>nat_lit 4 | .u16=>nat_lit 5 | .u32=>nat_lit 6 | .u64=>nat_lit 7
def Cj (a b:IntKind):Bool:=Nat.beq (kIx a) (kIx b)
def kHi:IntKind->Nat
 | .i8=>nat_lit 127 | .i16=>nat_lit 32767 | .i32=>nat_lit 2147483647 | .i64=>nat_lit 9223372036854775807
 | .u8=>nat_lit 255 | .u16=>nat_lit 65535 | .u32=>nat_lit 4294967295 | .u64=>nat_lit 18446744073709551615
def kLo:IntKind->Nat
 | .i8=>nat_lit 128 | .i16=>nat_lit 32768 | .i32=>nat_lit 2147483648 | .i64=>nat_lit 9223372036854775808
 | .u8=>nat_lit 0 | .u16=>nat_lit 0 | .u32=>nat_lit 0 | .u64=>nat_lit 0
def vP:IntKind->Nat
 | .i8=>nat_lit 256 | .u8=>nat_lit 256 | .i16=>nat_lit 65536 | .u16=>nat_lit 65536 | .i32=>nat_lit 4294967296 | .u32=>nat_lit 4294967296
 | .i64=>nat_lit 18446744073709551616 | .u64=>nat_lit 18446744073709551616
def sM (k:IntKind) (n:Int):Int:=match n with
 | .ofNat m=>Bool.rec (motive:=λ_=>Int) (k.wrap (.ofNat m)) (.ofNat m) (Nat.ble m (kHi k))
 | .negSucc m=>Bool.rec (motive:=λ_=>Int) (k.wrap (.negSucc m)) (.negSucc m) (Nat.ble (Nat.succ m) (kLo k))
inductive CV where
 | num (k:IntKind) (n:Int)
 | lit (b:Bool)
def Q8 (k:IntKind) (n:Int):Option CV:=match n with
 | .ofNat m=>Nat.rec (motive:=λ_=>Option CV) (some (.num k (.ofNat (nat_lit 0)))) (λm _=>some (.num k (.ofNat (Nat.succ m)))) m
 | .negSucc m=>Nat.rec (motive:=λ_=>Option CV) (some (.num k (.negSucc (nat_lit 0)))) (λm _=>some (.num k (.negSucc (Nat.succ m)))) m
def mkN (m:Nat):Option CV:=Nat.rec (motive:=λ_=>Option CV) (some (.num .i64 (.ofNat (nat_lit 0)))) (λm _=>some (.num .i64 (.ofNat (Nat.succ m)))) m
def D' (k:IntKind) (n:Int):Nat:=match n with
 | .ofNat m=>Nat.mod m (vP k)
 | .negSucc m=>Nat.sub (Nat.sub (vP k) (nat_lit 1)) (Nat.mod m (vP k))
def N7 (k:IntKind) (n:Nat):Option CV:=Q8 k (sM k (.ofNat n))
def Zr (op:BinOp) (k:IntKind) (x y:Int):Option CV:=match op with
 | .add=>Q8 k (sM k (Int.add x y))
 | .sub=>Q8 k (sM k (Int.sub x y))
 | .mul=>Q8 k (sM k (Int.mul x y))
 | .quo=>oE (Zg y (.ofNat (nat_lit 0))) none (Q8 k (sM k (Int.tdiv x y)))
 | .rem=>oE (Zg y (.ofNat (nat_lit 0))) none (Q8 k (Int.tmod x y))
 | .and=>N7 k (Nat.land (D' k x) (D' k y))
 | .or=>N7 k (Nat.lor (D' k x) (D' k y))
 | .xor=>N7 k (Nat.xor (D' k x) (D' k y))
 | .eql=>some (.lit (Zg x y))
 | .neq=>some (.lit (Bool.not (Zg x y)))
 | .lss=>some (.lit (Zq x y))
 | .leq=>some (.lit (Bool.not (Zq y x)))
 | .gtr=>some (.lit (Zq y x))
 | .geq=>some (.lit (Bool.not (Zq x y)))
 | _=>none
def Q9 (a b:Nat):Nat:=Bool.rec (motive:=λ_=>Nat) b a (Nat.ble a b)
def QiV (k:IntKind) (x:Int) (m:Nat):Option CV:=Q8 k (sM k (Int.mul x (.ofNat (Nat.pow (nat_lit 2) (Q9 m k.bits)))))
def QiW (k:IntKind) (x:Int) (m:Nat):Option CV:=match x with
 | .ofNat x=>Q8 k (.ofNat (Nat.div x (Nat.pow (nat_lit 2) (Q9 m k.bits))))
 | .negSucc _=>none
def Ck (op:BinOp) (k a:IntKind) (x y:Int):Option CV:=match op with
 | .shl=>match y with
  | .ofNat m=>QiV k x m
  | .negSucc _=>none
 | .shr=>match y with
  | .ofNat m=>QiW k x m
  | .negSucc _=>none
 | op=>oI (Cj k a) (Zr op k x y)
def ic {α:Type} (l:List α):Nat->Option α:=
 List.rec (motive:=λ_=>Nat->Option α) (λ_=>none) (λa _ b n=>Nat.rec (motive:=λ_=>Option α) (some a) (λn _=>b n) n) l
def l7 {α:Type} (l:List α):Nat:=List.rec (motive:=λ_=>Nat) (nat_lit 0) (λ_ _ a=>Nat.succ a) l
def j7 {α:Type} (f:α->Bool) (l:List α):Bool:=List.rec (motive:=λ_=>Bool) true (λa _ b=>Bool.rec (motive:=λ_=>Bool) false b (f a)) l
def Cl {α:Type} (f:α->Bool) (l:List α):Bool:=List.rec (motive:=λ_=>Bool) false (λa _ b=>Bool.rec (motive:=λ_=>Bool) b true (f a)) l
def ub {α β:Type} (f:α->β) (l:List α):List β:=List.rec (motive:=λ_=>List β) [] (λa _ b=>f a::b) l
def oe {α:Type} (x y:List α):List α:=List.rec (motive:=λ_=>List α) y (λa _ b=>a::b) x
def vb {α:Type} (n:Nat):List α->Option (List α):=
 Nat.rec (motive:=λ_=>List α->Option (List α)) (λ_=>some [])
  (λ_ b l=>List.rec (motive:=λ_=>Option (List α)) none (λa x _=>oB (b x) λz=>some (a::z)) l) n
def o9 {α:Type} (n:Nat):List α->List α:=
 Nat.rec (motive:=λ_=>List α->List α) (λl=>l) (λ_ a l=>List.rec (motive:=λ_=>List α) [] (λ_ x _=>a x) l) n
def Lo {α:Type} (b:List α):List α->Option (List α):=
 List.rec (motive:=λ_=>List α->Option (List α)) (λcs=>some cs)
  (λv _ a cs=>List.rec (motive:=λ_=>Option (List α)) none (λ_ cs _=>oB (a cs) λz=>some (v::z)) cs) b
def D_ {α:Type} (n:Nat) (b:List α):List α->Option (List α):=
 Nat.rec (motive:=λ_=>List α->Option (List α)) (λcs=>Lo b cs)
  (λ_ a cs=>List.rec (motive:=λ_=>Option (List α)) none (λc cs _=>oB (a cs) λz=>some (c::z)) cs) n
def N8 {α:Type} (n:Nat) (z:List α):List α:=Nat.rec (motive:=λ_=>List α) [] (λ_ a=>oe z a) n
def ay (k:IntKind) (a b:Int):Int:=k.wrap (a+b)
def dE (k:IntKind) (a b:Int):Int:=k.wrap (a-b)
def jx (k:IntKind) (a b:Int):Int:=k.wrap (a*b)
def Zs (k:IntKind) (a b:Int):Int:=k.wrap (Int.tdiv a b)
def QfE (a b:Int):Int:=Int.tmod a b
def rC (k:IntKind) (a b:Int):Int:=k.wrap (Int.ofNat (Nat.land (D' k a) (D' k b)))
def QP (k:IntKind) (a b:Int):Int:=k.wrap (Int.ofNat (Nat.lor (D' k a) (D' k b)))
def Qqz (k:IntKind) (a b:Int):Int:=k.wrap (Int.ofNat (Nat.xor (D' k a) (D' k b)))
def QqA (k:IntKind) (a:Int):Int:=k.wrap (-a)
def QqB (k:IntKind) (a:Int):Int:=k.wrap (Int.ofNat (Nat.xor (vP k-1) (D' k a)))
def xf (k:IntKind) (a:Int):Int:=k.wrap a
def ud (k:IntKind) (x y:Int):Int:=k.wrap (x*2 ^ (min y.toNat k.bits))
def QiX (k:IntKind) (x y:Int):Int:=x / 2 ^ (min y.toNat k.bits)
def aE (a b:Int):Bool:=decide (a=b)
def aD (a b:Int):Bool:=decide (a<b)
def aM (a b:Int):Bool:=decide (a<=b)
def gu (a b:Int):Int:=if b<a then b else a
def imax (a b:Int):Int:=if a<b then b else a
def cL (b:Bool) (x y:Int):Int:=if b=true then x else y
def fo (s:List UInt8):Int:=s.length
def sat (s:List UInt8) (i:Int):Int:=(s.getD i.toNat 0).toNat
def zS (s t:List UInt8):List UInt8:=s++t
def seq (s t:List UInt8):Bool:=decide (s=t)
def slt (s t:List UInt8):Bool:=decide (s<t)
def sN (a b:Bool):Bool:=a==b
def gt {α:Type} (d:α) (xs:List α) (i:Nat):α:=xs.getD i d
def ab {α:Type} (xs:List α):Int:=xs.length
def c_ {α:Type} (xs:List α) (n:Int):List α:=xs.take n.toNat
def o_ {α:Type} (xs:List α) (n:Int):List α:=xs.drop n.toNat
def dh {α:Type} (xs:List α) (i:Nat) (x:α):List α:=xs.set i x
def bn {α:Type} (xs a:List α):List α:=xs++a
def pq {α:Type} (n:Int) (x:α):List α:=List.replicate n.toNat x
def sO {α:Type} (xs:List α) (o n:Int):List α:=(xs.drop o.toNat).take n.toNat
def Ax {α:Type} (xs:List α) (o n:Int) (a:List α):List α:=xs.take o.toNat++a.take n.toNat++xs.drop (o.toNat+(a.take n.toNat).length)
def BIG:Int:=9223372036854775807
def ba (n:Int) (bytes:Nat):Bool:=decide (n*bytes<=140737488355328)
def D1 (k:IntKind):Int:=match k with
 | .i8=>-128 | .i16=>-32768 | .i32=>-2147483648 | .i64=>-9223372036854775808 | .u8=>0 | .u16=>0 | .u32=>0 | .u64=>0
def ue (k:IntKind):Int:=match k with
 | .i8=>127 | .i16=>32767 | .i32=>2147483647 | .i64=>9223372036854775807 | .u8=>255 | .u16=>65535 | .u32=>4294967295 | .u64=>18446744073709551615
def lf (k:IntKind) (n:Int):Bool:=aM (D1 k) n&&aM n (ue k)
inductive AV (E:Nat->Type) where
 | bool (b:Bool)
 | lit (b:Bool)
 | int (k:IntKind) (n:Int)
 | num (k:IntKind) (n:Int)
 | str (s:List UInt8)
 | fY
 | ptr (b o:Nat)
 | lg (g o:Nat)
 | mY (b k i j:Nat)
 | og (c:Nat) (x:E c) (j:Nat)
 | dc
 | own (b k:Nat) (n:Int)
 | pre (b k:Nat) (n:Int)
 | part (b k:Nat) (o n:Int)
 | grow (c:Nat) (xs:List (E c)) (b:Nat)
 | sub (b o n:Nat)
 | list (c:Nat) (xs:List (E c))
 | rD
 | map (r:Nat)
 | func (fn:Fn) (first captured:List (AV E))
 | nilFunc
 | iface (t:TypeId) (v:AV E)
 | nilIface
 | agg (cs:List (AV E))
 | tuple (vs:List (AV E))
structure Data where
 E:Nat->Type
 size:Nat->Nat
 bm:(c:Nat)->E c->List (AV E)
 dec:(c:Nat)->List (AV E)->Option (E c)
 Zt:(c:Nat)->E c
 bc:Nat
 zJ:List (E bc)->List UInt8
 ofB:List UInt8->List (E bc)
 ng:Nat
 gw:World->Prop
 gst:∀w w':World,(∀c,c<ng->w'.heap[c]?=w.heap[c]?)->gw w->gw w'
inductive AO (E:Nat->Type) where
 | cells (cs:List (AV E)) (elem:TypeId) (ro:Bool)
 | arr (c:Nat) (xs:List (E c)) (elem:TypeId) (ro:Bool)
 | tok (c:Nat) (elem:TypeId)
section
variable {E:Nat->Type}
def undef:AV E:=.tuple []
def QqC (s:ByteArray):AV E:=.str s.data.toList
def Q' (v:Value):Option (AV E):=match v with
 | .bool b=>some (.lit b)
 | .int k n=>oI (Bool.and (Bool.not (Zq n (D1 k))) (Bool.not (Zq (ue k) n))) (some (.num k n))
 | .string s=>oI (Nat.ble (l7 s.data.toList) (nat_lit 9223372036854775807)) (some (QqC s))
 | .nilFunc=>some .nilFunc
 | .nilIface=>some .nilIface
 | .pointer a=>match a with
  | none=>some .fY
  | _=>none
 | .map a=>match a with
  | none=>some .rD
  | _=>none
 | .slice a l c=>match a with
  | none=>oI (Bool.and (Nat.beq l (nat_lit 0)) (Nat.beq c (nat_lit 0))) (some .dc)
  | _=>none
 | .func f x y=>match f with
  | .func g=>oI (Bool.and (Nat.beq (l7 x.toList) (nat_lit 0)) (Nat.beq (l7 y.toList) (nat_lit 0))) (some (.func (.func g) [] []))
  | _=>none
 | _=>none
def Zu (l:List Value):Option (List (AV E)):=List.rec (motive:=λ_=>Option (List (AV E))) (some []) (λv _ b=>oB (Q' v) λa=>oB b λr=>some (a::r)) l
def ofV (v:Value):Option (AV E):=match v with
 | .agg cs=>oB (Zu cs.toList) λl=>some (.agg l)
 | .tuple cs=>oB (Zu cs.toList) λl=>some (.tuple l)
 | v=>Q' v
def Ea (v:CV):AV E:=match v with
 | .num k n=>.num k n
 | .lit b=>.lit b
def dr (v:AV E):List (AV E):=match v with
 | .agg cs=>cs
 | v=>[v]
def one (v:AV E):Bool:=match v with
 | .agg _=>false
 | .tuple _=>false
 | _=>true
def cQ (v:AV E):C (IntKind×Int):=match v with
 | .int k n=>.ret (k,n)
 | .num k n=>.ret (k,n)
 | _=>.fail
def asN (v:AV E):C Nat:=match v with
 | .num _ n=>match n with
  | .ofNat m=>.ret m
  | .negSucc _=>.fail
 | _=>.fail
def xg (v:AV E):C (Bool×Bool):=match v with
 | .lit b=>.ret (b,true)
 | .bool b=>.ret (b,false)
 | _=>.fail
def asAgg (v:AV E):C (List (AV E)):=match v with
 | .agg cs=>.ret cs
 | _=>.fail
def Q_ (v:AV E):C (List (AV E)):=match v with
 | .tuple cs=>.ret cs
 | _=>.fail
def iO (v:AV E):C (List UInt8):=match v with
 | .str s=>.ret s
 | _=>.fail
def h_ (c a:Nat) (xs:List (E a)):C (List (E c)):=Decidable.rec (motive:=λ_=>C (List (E c))) (λ_=>.fail) (λh=>.ret (Eq.rec (motive:=λc _=>List (E c)) xs h)) (Nat.decEq a c)
def Lp (c a:Nat) (x:E a):C (E c):=Decidable.rec (motive:=λ_=>C (E c)) (λ_=>.fail) (λh=>.ret (Eq.rec (motive:=λc _=>E c) x h)) (Nat.decEq a c)
end
structure St (E:Nat->Type) where
 h:T (AO E)
 nx:Nat
section
variable {E:Nat->Type}
def St.new (s:St E) (o:AO E):C (Nat×St E):=
 Nat.rec (motive:=λ_=>C (Nat×St E)) (aB (dg (s.h.put (nat_lit 0) (some o))) λh=>.ret (nat_lit 0,⟨h,nat_lit 1⟩)) (λn _=>aB (dg (s.h.put (Nat.succ n) (some o))) λh=>.ret (Nat.succ n,⟨h,Nat.succ (Nat.succ n)⟩)) s.nx
def St.set (s:St E) (b:Nat) (o:Option (AO E)):C (St E):=aB (dg (s.h.put b o)) λh=>.ret ⟨h,s.nx⟩
def qF (s:St E) (b:Nat):C (List (AV E)):=aB (dg (s.h.get b)) λo=>match o with
 | .cells cs _ _=>.ret cs
 | _=>.fail
def QfF (s:St E) (b:Nat):C (List (AV E)×TypeId):=aB (dg (s.h.get b)) λo=>match o with
 | .cells cs e ro=>Bool.rec (motive:=λ_=>C (List (AV E)×TypeId)) (.ret (cs,e)) .fail ro
 | _=>.fail
structure Ar (E:Nat->Type) where
 c:Nat
 xs:List (E c)
 e:TypeId
 ro:Bool
def lh (s:St E) (b:Nat):C (Ar E):=aB (dg (s.h.get b)) λo=>match o with
 | .arr c xs e ro=>.ret ⟨c,xs,e,ro⟩
 | _=>.fail
def Qdm (s:St E) (b:Nat):C (Nat×TypeId):=aB (dg (s.h.get b)) λo=>match o with
 | .tok c e=>.ret (c,e)
 | _=>.fail
end
def vd (d:TypeDesc):C TypeId:=match d with
 | .slice e=>.ret e
 | _=>.fail
def Lq (d:TypeDesc):C (List Field):=match d with
 | .struct a=>.ret a.toList
 | _=>.fail
def QfG (d:TypeDesc):Bool:=match d with
 | .string=>true
 | _=>false
def Qdn (d:TypeDesc):Bool:=match d with
 | .slice _=>true
 | _=>false
def QfH (d:TypeDesc):Bool:=match d with
 | .struct _=>true
 | .array _ _=>true
 | _=>false
def dU8 (d:TypeDesc):Bool:=match d with
 | .int k=>match k with
  | .u8=>true
  | _=>false
 | _=>false
section
variable (P:Program) (D:Data) (cd:TypeId->Option Nat)
def vQ (t:TypeId):Option Nat:=Option.rec (motive:=λ_=>Option Nat) none (λi=>some i.size) (P.info? t)
def Zv (t:TypeId):Option Nat:=Option.rec (motive:=λ_=>Option Nat) none (λi=>some i.bytes) (P.info? t)
def vR (t:TypeId):C TypeDesc:=dg (P.underlying t)
def sz (t:TypeId):C Nat:=dg (vQ P t)
def zeroOf (t:TypeId):C (AV D.E):=aB (dg (P.info? t)) λi=>aB (dg i.zero) λz=>dg (ofV z)
def ev (φ:T (AV D.E)) (x:Operand):C (AV D.E):=match x with
 | .tmp t=>dg (φ.get t)
 | .const v=>dg (ofV v)
 | .global g=>bB (Nat.ble (Nat.succ g) P.globals.size) (.ret (.lg g (nat_lit 0)))
 | .func f=>.ret (.func (.func f) [] [])
def Ra (φ:T (AV D.E)) (l:List Operand):C (List (AV D.E)):=
 List.rec (motive:=λ_=>C (List (AV D.E))) (.ret []) (λx _ a=>aB (ev P D φ x) λv=>aB a λb=>.ret (v::b)) l
def kD (t:TypeId) (cs:List (AV D.E)) (o:Nat):C (AV D.E):=aB (vR P t) λd=>
 bE (QfH d) (aB (sz P t) λk=>aB (dg (vb k (o9 o cs))) λl=>.ret (.agg l)) (dg (ic cs o))
def rX (e:TypeId):C Nat:=aB (dg (cd e)) λc=>aB (sz P e) λk=>bB (Nat.beq k (D.size c)) (bB (Nat.ble (nat_lit 1) k) (.ret c))
def rowAt (a:Ar D.E) (i:Nat):List (AV D.E):=D.bm a.c (gt (D.Zt a.c) a.xs i)
def Eb (s:St D.E) (t:TypeId) (p:AV D.E):C (AV D.E):=match p with
 | .ptr b o=>aB (qF s b) λcs=>kD P D t cs o
 | .mY b _ i j=>aB (lh s b) λa=>kD P D t (rowAt D a i) j
 | .og c x j=>kD P D t (D.bm c x) j
 | _=>.fail
def uf (s:St D.E) (b o:Nat) (a:List (AV D.E)):C (St D.E):=aP (QfF s b) λcs e=>aB (dg (D_ o a cs)) λcs=>s.set b (some (.cells cs e false))
def ug (c:Nat) (row:List (AV D.E)):C (D.E c):=dg (D.dec c row)
def Rb (s:St D.E) (b i j:Nat) (d:List (AV D.E)):C (St D.E):=aB (lh s b) λa=>match a with
 | ⟨c,xs,e,ro⟩=>Bool.rec (motive:=λ_=>C (St D.E)) (aB (dg (D_ j d (D.bm c (gt (D.Zt c) xs i)))) λrow=>aB (ug D c row) λx=>s.set b (some (.arr c (dh xs i x) e false))) .fail ro
def Lr (s:St D.E) (t:TypeId) (p x:AV D.E):C (St D.E):=aB (sz P t) λk=>bB (Nat.beq (l7 (dr x)) k) (bB (j7 one (dr x)) (match p with
 | .ptr b o=>uf D s b o (dr x)
 | .mY b _ i j=>Rb D s b i j (dr x)
 | _=>.fail))
def Zw (op:BinOp) (k:IntKind) (x y:Int):C (AV D.E):=match op with
 | .add=>.ret (.int k (ay k x y))
 | .sub=>.ret (.int k (dE k x y))
 | .mul=>.ret (.int k (jx k x y))
 | .quo=>ask (Bool.not (aE y (.ofNat (nat_lit 0)))) (.ret (.int k (Zs k x y)))
 | .rem=>ask (Bool.not (aE y (.ofNat (nat_lit 0)))) (.ret (.int k (QfE x y)))
 | .and=>.ret (.int k (rC k x y))
 | .or=>.ret (.int k (QP k x y))
 | .xor=>.ret (.int k (Qqz k x y))
 | .eql=>.ret (.bool (aE x y))
 | .neq=>.ret (.bool (Bool.not (aE x y)))
 | .lss=>.ret (.bool (aD x y))
 | .leq=>.ret (.bool (aM x y))
 | .gtr=>.ret (.bool (aD y x))
 | .geq=>.ret (.bool (aM y x))
 | _=>.fail
def Zx (op:BinOp) (k a:IntKind) (x y:Int):C (AV D.E):=match op with
 | .shl=>ask (aM (.ofNat (nat_lit 0)) y) (.ret (.int k (ud k x y)))
 | .shr=>ask (aM (.ofNat (nat_lit 0)) y) (ask (aM (.ofNat (nat_lit 0)) x) (.ret (.int k (QiX k x y))))
 | op=>bB (Cj k a) (Zw D op k x y)
def Cm (op:BinOp) (x y:List UInt8):C (AV D.E):=match op with
 | .add=>ask (aM (fo (zS x y)) BIG) (.ret (.str (zS x y)))
 | .eql=>.ret (.bool (seq x y))
 | .neq=>.ret (.bool (Bool.not (seq x y)))
 | .lss=>.ret (.bool (slt x y))
 | .leq=>.ret (.bool (Bool.not (slt y x)))
 | .gtr=>.ret (.bool (slt y x))
 | .geq=>.ret (.bool (Bool.not (slt x y)))
 | _=>.fail
def Cn (v:AV D.E):C Bool:=match v with
 | .fY=>.ret true
 | .ptr _ _=>.ret false
 | .lg _ _=>.ret false
 | .mY _ _ _ _=>.ret false
 | .og _ _ _=>.ret false
 | .dc=>.ret true
 | .rD=>.ret true
 | .map _=>.ret false
 | .nilFunc=>.ret true
 | .func _ _ _=>.ret false
 | .nilIface=>.ret true
 | .iface _ _=>.ret false
 | .list _ xs=>ask (aD (.ofNat (nat_lit 0)) (ab xs)) (.ret false)
 | _=>.fail
def HH (v:AV D.E):Nat:=match v with
 | .fY=>nat_lit 1 | .ptr _ _=>nat_lit 1 | .lg _ _=>nat_lit 1 | .mY _ _ _ _=>nat_lit 1 | .og _ _ _=>nat_lit 1
 | .dc=>nat_lit 2 | .list _ _=>nat_lit 2 | .rD=>nat_lit 3 | .map _=>nat_lit 3 | .nilFunc=>nat_lit 4 | .func _ _ _=>nat_lit 4 | .nilIface=>nat_lit 5 | .iface _ _=>nat_lit 5
 | _=>nat_lit 0
def Qdo (d:TypeDesc):Nat:=match d with
 | .pointer _=>nat_lit 1
 | .slice _=>nat_lit 2
 | .map _ _=>nat_lit 3
 | .func _ _ _=>nat_lit 4
 | .interface _=>nat_lit 5
 | _=>nat_lit 6
def Qdp (d:TypeDesc) (x y:AV D.E):C (Bool×Bool):=bB (Nat.beq (HH D x) (Qdo d)) (bB (Nat.beq (HH D y) (Qdo d)) (aB (Cn D x) λa=>aB (Cn D y) λb=>bE (Bool.or a b) (.ret (Bool.and a b,true)) .fail))
def Ls (x y:AV D.E):C (Bool×Bool):=match x with
 | .num k a=>match y with
  | .num c b=>bB (Cj k c) (.ret (Zg a b,true))
  | .int c b=>bB (Cj k c) (.ret (aE a b,false))
  | _=>.fail
 | .int k a=>aP (cQ y) λc b=>bB (Cj k c) (.ret (aE a b,false))
 | _=>.fail
def HJ (d:TypeDesc) (x y:AV D.E):C (Bool×Bool):=match d with
 | .bool=>aP (xg x) λa p=>aP (xg y) λb q=>.ret (sN a b,Bool.and p q)
 | .int _=>Ls D x y
 | .string=>aB (iO x) λa=>aB (iO y) λb=>.ret (seq a b,false)
 | d=>Qdp D d x y
def Ec (a b:Bool×Bool):Bool×Bool:=match a with
 | (x,p)=>match b with
  | (y,q)=>bif p then(bif x then(y,q) else(false,true)) else(bif q then(bif y then(x,p) else(false,true)) else(Bool.and x y,false))
def wB (b:TypeId->AV D.E->AV D.E->C (Bool×Bool)) (e:TypeId) (k:Nat) (xs d:List (AV D.E)) (n:Nat):Nat->C (Bool×Bool):=
 Nat.rec (motive:=λ_=>Nat->C (Bool×Bool)) (λ_=>.ret (true,true))
  (λ_ a i=>aB (kD P D e xs (Nat.mul i k)) λx=>aB (kD P D e d (Nat.mul i k)) λy=>aB (b e x y) λr=>aB (a (Nat.succ i)) λc=>.ret (Ec r c)) n
def eqFields (ih:TypeId->AV D.E->AV D.E->C (Bool×Bool)) (xs ys:List (AV D.E)) (fs:List Field):C (Bool×Bool):=
 List.rec (motive:=λ_=>C (Bool×Bool)) (.ret (true,true))
  (λf _ ihf=>bE (decide (f.name= "_")) .fail (aB (kD P D f.type xs f.offset) λx=>aB (kD P D f.type ys f.offset) λy=>aB (ih f.type x y) λr=>aB ihf λr'=>.ret (Ec r r'))) fs
def eqD (b:TypeId->AV D.E->AV D.E->C (Bool×Bool)) (t:TypeId) (d:TypeDesc) (x y:AV D.E):C (Bool×Bool):=match d with
 | .struct c=>aB (asAgg x) λxs=>aB (asAgg y) λa=>bE (P.stoodInHeld t) .fail (eqFields P D b xs a c.toList)
 | .array len e=>aB (asAgg x) λxs=>aB (asAgg y) λa=>aB (sz P e) λk=>wB P D b e k xs a len (nat_lit 0)
 | d=>HJ D d x y
def QQ (n:Nat):TypeId->AV D.E->AV D.E->C (Bool×Bool):=
 Nat.rec (motive:=λ_=>TypeId->AV D.E->AV D.E->C (Bool×Bool)) (λ_ _ _=>.fail) (λ_ a t x y=>aB (vR P t) λd=>eqD P D a t d x y) n
def Re (t:TypeId) (x y:AV D.E):C (Bool×Bool):=match x with
 | .agg _=>bE (P.eqGuardType P.depth t) .fail (QQ P D (nat_lit 4) t x y)
 | .nilIface=>match y with
  | .nilIface=>.fail
  | _=>QQ P D (nat_lit 4) t x y
 | _=>QQ P D (nat_lit 4) t x y
def mkT (b c:Bool):AV D.E:=bif c then .lit b else .bool b
def Rf (op:BinOp) (t:TypeId) (x y:AV D.E):C (AV D.E):=match op with
 | .eql=>aP (Re P D t x y) λr c=>.ret (mkT D r c)
 | .neq=>aP (Re P D t x y) λr c=>.ret (mkT D (Bool.not r) c)
 | _=>.fail
def Qi2 (op:BinOp) (t:TypeId) (x y:AV D.E):C (AV D.E):=match x with
 | .num k a=>match y with
  | .num c b=>aB (dg (Ck op k c a b)) λv=>.ret (Ea v)
  | .int c b=>Zx D op k c a b
  | _=>.fail
 | .int k a=>aP (cQ y) λc b=>Zx D op k c a b
 | .str a=>aB (iO y) λb=>Cm D op a b
 | x=>Rf P D op t x y
def isConst (x:Operand):Bool:=match x with
 | .const _=>true
 | _=>false
def QfI (v:AV D.E):Bool:=match v with
 | .nilIface=>true
 | _=>false
def Qi3 (d:TypeDesc):Bool:=match d with
 | .interface _=>true
 | _=>false
def nnA (op:BinOp):C (AV D.E):=match op with
 | .eql=>.ret (.lit true)
 | .neq=>.ret (.lit false)
 | _=>.fail
def Qi4 (op:BinOp) (t:TypeId) (a b:Operand) (x y:AV D.E):C (AV D.E):=bE (Bool.and (Bool.or (isConst a) (isConst b)) (Bool.and (QfI D x) (QfI D y))) (aB (vR P t) λd=>bB (Qi3 d) (nnA D op)) (Qi2 P D op t x y)
def unA (op:UnOp) (x:AV D.E):C (AV D.E):=match op with
 | .neg=>match x with
  | .num k n=>aB (dg (Q8 k (sM k (Int.neg n)))) λv=>.ret (Ea v)
  | .int k n=>.ret (.int k (QqA k n))
  | _=>.fail
 | .xor=>match x with
  | .num k n=>aB (dg (N7 k (Nat.xor (Nat.sub (vP k) (nat_lit 1)) (D' k n)))) λv=>.ret (Ea v)
  | .int k n=>.ret (.int k (QqB k n))
  | _=>.fail
 | .not=>aP (xg x) λb c=>.ret (mkT D (Bool.not b) c)
 | _=>.fail
def Qi5 (c:Nat) (cs:List (AV D.E)) (n:Nat):Nat->C (List (D.E c)):=
 Nat.rec (motive:=λ_=>Nat->C (List (D.E c))) (λ_=>.ret []) (λ_ a o=>aB (dg (ic cs o)) λv=>aB (dg (D.dec c [v])) λx=>aB (a (Nat.succ o)) λr=>.ret (x::r)) n
def aW (s:St D.E) (c:Nat) (x:AV D.E):C (List (D.E c)):=match x with
 | .list d xs=>h_ c d xs
 | .grow d xs _=>h_ c d xs
 | .own b _ _=>aB (lh s b) λa=>match a with
  | ⟨d,xs,_,_⟩=>h_ c d xs
 | .pre b _ n=>aB (lh s b) λa=>match a with
  | ⟨d,xs,_,_⟩=>h_ c d (c_ xs n)
 | .part b _ o n=>aB (lh s b) λa=>match a with
  | ⟨d,xs,_,_⟩=>h_ c d (sO xs o n)
 | .dc=>.ret []
 | .str l=>h_ c D.bc (D.ofB l)
 | .sub b o n=>bB (Nat.beq (D.size c) (nat_lit 1)) (aB (qF s b) λcs=>Qi5 D c cs n o)
 | _=>.fail
def Rh (x:AV D.E):C (AV D.E):=match x with
 | .list _ xs=>.ret (.int .i64 (ab xs))
 | .grow _ xs _=>.ret (.int .i64 (ab xs))
 | .own _ _ n=>.ret (.int .i64 n)
 | .pre _ _ n=>.ret (.int .i64 n)
 | .part _ _ _ n=>.ret (.int .i64 n)
 | .dc=>.ret (.num .i64 (.ofNat (nat_lit 0)))
 | .sub _ _ n=>aB (dg (mkN n)) λv=>.ret (Ea v)
 | _=>.fail
def Qi6 (t:TypeId) (x:AV D.E):C (AV D.E):=aB (vR P t) λd=>match d with
 | .string=>aB (iO x) λl=>.ret (.int .i64 (fo l))
 | .slice _=>Rh D x
 | .array n _=>aB (dg (mkN n)) λv=>bB (Nat.ble n (nat_lit 1099511627776)) (.ret (Ea v))
 | _=>.fail
def Ri (s:St D.E) (c:Nat) (xs:List (D.E c)) (e:TypeId):C (AV D.E×St D.E):=aP (s.new (.arr c xs e false)) λb s=>.ret (.own b (D.size c) (ab xs),s)
def Co (s:St D.E) (c:Nat) (xs:List (D.E c)) (e:TypeId):C (AV D.E×St D.E):=aP (s.new (.tok c e)) λb s=>.ret (.grow c xs b,s)
def newRow (mu:Bool) (s:St D.E) (c:Nat) (xs:List (D.E c)) (e:TypeId):C (AV D.E×St D.E):=bif mu then Ri D s c xs e else Co D s c xs e
def HN (d:Nat) (s:St D.E) (c:Nat) (e:TypeId) (b:Nat) (cut:List (D.E c)->List (D.E c)) (f:List (D.E c)):C (AV D.E×St D.E):=aB (lh s b) λa=>match a with
 | ⟨g,xs,h,ro⟩=>Bool.rec (motive:=λ_=>C (AV D.E×St D.E)) (bB (Nat.beq h e) (aB (h_ c g xs) λxs=>ask (ba (ab (bn (cut xs) f)) d) (aB (s.set b none) λs=>aP (s.new (.arr c (bn (cut xs) f) e false)) λb s=>.ret (.own b (D.size c) (ab (bn (cut xs) f)),s)))) .fail ro
def Ed (mu:Bool) (a:Nat) (s:St D.E) (c:Nat) (e:TypeId) (d:AV D.E) (f:List (D.E c)):C (AV D.E×St D.E):=match d with
 | .dc=>ask (ba (ab f) a) (newRow D mu s c f e)
 | .grow g xs b=>aP (Qdm s b) λc2 h=>bB (Nat.beq c2 c) (bB (Nat.beq h e) (aB (h_ c g xs) λxs=>ask (ba (ab (bn xs f)) a) (aB (s.set b none) λs=>Co D s c (bn xs f) e)))
 | .own b _ _=>HN D a s c e b (λxs=>xs) f
 | .pre b _ n=>HN D a s c e b (λxs=>c_ xs n) f
 | _=>.fail
def Lt (mu:Bool) (s:St D.E) (t u:TypeId) (d x:AV D.E):C (AV D.E×St D.E):=aB (vR P t) λb=>aB (vd b) λe=>aB (vR P u) λa=>bB (Bool.or (Qdn a) (QfG a))
 (aB (rX P D cd e) λc=>aB (dg (Zv P e)) λbytes=>bB (Nat.ble bytes (nat_lit 65536)) (bB (Nat.ble (nat_lit 1) bytes) (aB (zeroOf P D e) λz=>bB (Nat.beq (l7 (dr z)) (D.size c)) (aB (aW D s c x) λf=>Ed D mu bytes s c e d f))))
def Lu (l:List UInt8) (cs:List (AV D.E)):Nat->C (List (AV D.E)):=
 List.rec (motive:=λ_=>Nat->C (List (AV D.E))) (λ_=>.ret []) (λv _ a i=>aP (cQ v) λk n=>bB (Cj k .u8) (aB (a (Nat.succ i)) λr=>.ret (.int .u8 (cL (aD (.ofNat i) (fo l)) (sat l (.ofNat i)) n)::r))) cs
def Cp (s:St D.E) (b:Nat) (o n:Int) (x:AV D.E) (c:Nat):C (AV D.E×St D.E):=aB (lh s b) λa=>match a with
 | ⟨d,xs,f,ro⟩=>Bool.rec (motive:=λ_=>C (AV D.E×St D.E)) (aB (aW D s d x) λe=>bB (Nat.beq c d) (aB (s.set b (some (.arr d (Ax xs o n e) f false))) λs=>.ret (.int .i64 (gu n (ab e)),s))) .fail ro
def Qdq (s:St D.E) (t:TypeId) (d x:AV D.E):C (AV D.E×St D.E):=aB (vR P t) λh=>aB (vd h) λe=>aB (rX P D cd e) λc=>match d with
 | .own b _ n=>Cp D s b (.ofNat (nat_lit 0)) n x c
 | .pre b _ n=>Cp D s b (.ofNat (nat_lit 0)) n x c
 | .part b _ o n=>Cp D s b o n x c
 | .sub b o n=>bB (Nat.beq c D.bc) (bB (Nat.ble n (nat_lit 1000)) (match x with
  | .sub g i a=>aB (qF s g) λcs=>aB (dg (vb (Q9 a n) (o9 i cs))) λl=>bB (j7 one l) (aB (uf D s b o l) λs=>aB (dg (mkN (Q9 a n))) λv=>.ret (Ea v,s))
  | x=>aB (aW D s D.bc x) λf=>aB (qF s b) λcs=>aB (dg (vb n (o9 o cs))) λl=>aB (Lu D (D.zJ f) l (nat_lit 0)) λl=>aB (uf D s b o l) λs=>.ret (.int .i64 (gu (.ofNat n) (fo (D.zJ f))),s)))
 | _=>.fail
def evO (φ:T (AV D.E)) (x:Option Operand):C (Option (AV D.E)):=
 Option.rec (motive:=λ_=>C (Option (AV D.E))) (.ret none) (λx=>aB (ev P D φ x) λv=>.ret (some v)) x
def zI:Int:=.ofNat (nat_lit 0)
def Qi7 {α:Type} (xs:List α) (hi:Option (AV D.E)):C (List α):=Option.rec (motive:=λ_=>C (List α)) (.ret xs) (λv=>aP (cQ v) λ_ h=>ask (aM zI h) (ask (aM h (ab xs)) (.ret (c_ xs h)))) hi
def Qi8 {α:Type} (xs:List α) (lo:Option (AV D.E)):C (List α):=Option.rec (motive:=λ_=>C (List α)) (.ret xs) (λv=>aP (cQ v) λ_ l=>ask (aM zI l) (ask (aM l (ab xs)) (.ret (o_ xs l)))) lo
def Qi9 {α:Type} (xs:List α) (hi mx:Option (AV D.E)):C Unit:=Option.rec (motive:=λ_=>C Unit) (.ret ()) (λv=>aP (cQ v) λ_ m=>aB (dg hi) λhi=>aP (cQ hi) λ_ h=>ask (aM h m) (ask (aM m (ab xs)) (.ret ()))) mx
def N9 {α:Type} (xs:List α) (lo hi mx:Option (AV D.E)):C (List α):=aB (Qi9 D xs hi mx) λ_=>aB (Qi7 D xs hi) λa=>Qi8 D a lo
def Rj (lo:Option (AV D.E)):Bool:=Option.rec (motive:=λ_=>Bool) true (λv=>match v with
 | .num _ n=>Zg n zI
 | _=>false) lo
def pE (x:Option (AV D.E)) (d hi:Nat):C Nat:=Option.rec (motive:=λ_=>C Nat) (.ret d) (λv=>aB (asN v) λm=>bB (Nat.ble m hi) (.ret m)) x
def jc (x:Option (AV D.E)) (d hi:Int):C Int:=Option.rec (motive:=λ_=>C Int) (.ret d) (λv=>aP (cQ v) λ_ m=>ask (aM zI m) (ask (aM m hi) (.ret m))) x
def Ay (b k:Nat) (l h:Int) (z:Bool):AV D.E:=bif z then .pre b k h else .part b k l (h-l)
def HO (b k:Nat) (o l h:Int) (z:Bool):AV D.E:=bif z then .part b k o h else .part b k (o+l) (h-l)
def Rk (t:TypeId) (x:AV D.E) (lo hi mx:Option (AV D.E)):C (AV D.E):=aB (vR P t) λd=>match d with
 | .string=>bB (Option.isNone mx) (aB (iO x) λl=>aB (N9 D l lo hi mx) λr=>.ret (.str r))
 | .slice e=>aB (sz P e) λk=>match x with
  | .list c xs=>bB (Nat.beq k (D.size c)) (aB (N9 D xs lo hi mx) λr=>.ret (.list c r))
  | .grow c xs _=>bB (Nat.beq k (D.size c)) (aB (N9 D xs lo hi mx) λr=>.ret (.list c r))
  | .dc=>aB (pE D mx (nat_lit 0) (nat_lit 0)) λ_=>aB (pE D hi (nat_lit 0) (nat_lit 0)) λ_=>aB (pE D lo (nat_lit 0) (nat_lit 0)) λ_=>bE (Bool.and (Option.isSome mx) (Option.isNone hi)) .fail (.ret .dc)
  | .own b a n=>bB (Bool.and (Nat.beq a k) (Option.isNone mx)) (aB (jc D hi n n) λh=>aB (jc D lo zI h) λl=>.ret (Ay D b k l h (Rj D lo)))
  | .pre b a n=>bB (Bool.and (Nat.beq a k) (Option.isNone mx)) (aB (jc D hi n n) λh=>aB (jc D lo zI h) λl=>.ret (Ay D b k l h (Rj D lo)))
  | .part b a o n=>bB (Bool.and (Nat.beq a k) (Option.isNone mx)) (aB (jc D hi n n) λh=>aB (jc D lo zI h) λl=>.ret (HO D b k o l h (Rj D lo)))
  | .sub b o n=>aB (pE D hi n n) λh=>aB (pE D lo (nat_lit 0) h) λl=>bB (Bool.and (Nat.beq k (nat_lit 1)) (Option.isNone mx)) (.ret (.sub b (Nat.add o l) (Nat.sub h l)))
  | _=>.fail
 | .array n e=>match x with
  | .ptr b o=>aB (sz P e) λk=>bB (Nat.beq k (nat_lit 1)) (bB (Bool.and (Nat.ble n (nat_lit 1099511627776)) (Option.isNone mx)) (aB (pE D hi n n) λh=>aB (pE D lo (nat_lit 0) h) λl=>.ret (.sub b (Nat.add o l) (Nat.sub h l))))
  | _=>.fail
 | _=>.fail
def xh (aq:Nat->C (Nat×Nat)) (φ:T (AV D.E)) (b:List (Nat×Operand)):List (AV D.E)->C (List (AV D.E)):=
 List.rec (motive:=λ_=>List (AV D.E)->C (List (AV D.E))) (λcs=>.ret cs)
  (λp _ a cs=>aP (.ret p) λi x=>aP (aq i) λoff size=>aB (ev P D φ x) λv=>bB (Nat.beq (l7 (dr v)) size) (aB (dg (D_ off (dr v) cs)) λcs=>a cs)) b
def Rn (a:List Field) (i:Nat):C (Nat×Nat):=aB (dg (ic a i)) λf=>aB (sz P f.type) λk=>.ret (f.offset,k)
def Qdr (a:List Field):Bool:=j7 (λf=>Option.rec (motive:=λ_=>Bool) false (λ_=>true) (vQ P f.type)) a
def Lv (φ:T (AV D.E)) (t:TypeId) (parts:List (Nat×Operand)):C (AV D.E):=aB (zeroOf P D t) λz=>aB (vR P t) λd=>match d with
 | .struct a=>bB (Qdr P a.toList) (aB (xh P D (Rn P a.toList) φ parts (dr z)) λcs=>.ret (.agg cs))
 | .array _ e=>aB (sz P e) λk=>aB (xh P D (λi=>.ret (Nat.mul i k,k)) φ parts (dr z)) λcs=>.ret (.agg cs)
 | _=>.fail
def HQ (c k:Nat) (n:Nat):List (AV D.E)->C (List (D.E c)):=
 Nat.rec (motive:=λ_=>List (AV D.E)->C (List (D.E c))) (λ_=>.ret [])
  (λ_ a cs=>aB (dg (vb k cs)) λrow=>aB (ug D c row) λx=>aB (a (o9 k cs)) λr=>.ret (x::r)) n
def Az (mu:Bool) (s:St D.E) (φ:T (AV D.E)) (t:TypeId) (len:Nat) (parts:List (Nat×Operand)):C (AV D.E×St D.E):=aB (vR P t) λd=>aB (vd d) λe=>aB (rX P D cd e) λc=>aB (zeroOf P D e) λz=>
 bB (Nat.beq (l7 (dr z)) (D.size c)) (bB (Nat.ble (Nat.mul len (D.size c)) (nat_lit 100000))
  (aB (xh P D (λi=>.ret (Nat.mul i (D.size c),D.size c)) φ parts (N8 len (dr z))) λcs=>bB (j7 one cs) (aB (HQ D c (D.size c) len cs) λxs=>newRow D mu s c xs e)))
def Qja (v:AV D.E):Bool:=match v with
 | .num _ n=>Zg n zI
 | _=>false
def Ee (mu:Bool) (s:St D.E) (t:TypeId) (l c:AV D.E):C (AV D.E×St D.E):=aB (vR P t) λd=>aB (vd d) λe=>aP (cQ l) λb n=>bB (Cj b .i64) (aP (cQ c) λf m=>bB (Cj f .i64) (aB (rX P D cd e) λc=>aB (dg (Zv P e)) λa=>aB (zeroOf P D e) λz=>
 bB (Nat.beq (l7 (dr z)) (D.size c)) (bB (Nat.ble a (nat_lit 65536)) (aB (ug D c (dr z)) λx=>ask (aM zI n) (ask (aM n m) (ask (ba m a)
  (bE (Bool.and (Qja D l) (Bool.not mu)) (Co D s c [] e) (Ri D s c (pq n x) e))))))))
def Rp (x:AV D.E):C (AV D.E):=match x with
 | .ptr _ _=>.ret x
 | .lg _ _=>.ret x
 | .mY _ _ _ _=>.ret x
 | .og _ _ _=>.ret x
 | .func f _ _=>match f with
  | .func _=>.ret x
  | _=>.fail
 | _=>.fail
def wC (d:TypeDesc) (n:Int) (closed:Bool):C (AV D.E):=match d with
 | .int k=>bif closed then(aB (dg (Q8 k (sM k n))) λv=>.ret (Ea v)) else .ret (.int k (xf k n))
 | .string=>.ret (.str (Utf8.encode n).data.toList)
 | _=>.fail
def HR (s:St D.E) (d a:TypeDesc) (x:AV D.E):C (AV D.E×St D.E):=aB (vd d) λe=>match a with
  | .string=>aB (vR P e) λb=>bB (dU8 b) (aB (rX P D cd e) λc=>bB (Nat.beq c D.bc) (aB (aW D s D.bc x) λxs=>.ret (.str (D.zJ xs),s)))
  | _=>.fail
def Zy (s:St D.E) (src dst:TypeId) (f c:TypeDesc) (b k:Nat) (n:Int):C (AV D.E×St D.E):=aB (vd f) λ_=>aB (vd c) λe=>bB (Nat.beq src dst) (bB (Nat.beq k (nat_lit 1)) (aB (vR P e) λd=>bB (dU8 d) (aB (lh s b) λa=>bE a.ro .fail (ask (aD (.ofNat (nat_lit 0)) n) (.ret (.own b k n,s))))))
def Rq (mu:Bool) (s:St D.E) (src dst:TypeId) (x:AV D.E):C (AV D.E×St D.E):=aB (vR P src) λd=>aB (vR P dst) λa=>match x with
 | .int _ n=>aB (wC D a n false) λv=>.ret (v,s)
 | .num _ n=>aB (wC D a n true) λv=>.ret (v,s)
 | .str b=>bB (QfG d) (match a with
  | .string=>.ret (.str b,s)
  | .slice e=>aB (vR P e) λf=>bB (dU8 f) (aB (rX P D cd e) λc=>aB (h_ c D.bc (D.ofB b)) λxs=>newRow D mu s c xs e)
  | _=>.fail)
 | .own b k n=>bE (Qdn a) (Zy P D s src dst d a b k n) (HR P D cd s d a (.own b k n))
 | x=>HR P D cd s d a x
def Lw (t:TypeId) (x:AV D.E):C (AV D.E):=aB (vR P t) λd=>match d with
 | .interface _=>.fail
 | _=>.ret (.iface t x)
def ve (t:TypeId) (x:AV D.E) (f:Nat):C (AV D.E):=aB (vR P t) λd=>aB (Lq d) λa=>aB (dg (ic a f)) λfd=>aB (sz P fd.type) λk=>bB (Nat.ble (nat_lit 1) k) (match x with
 | .ptr b o=>.ret (.ptr b (Nat.add o fd.offset))
 | .lg b o=>.ret (.lg b (Nat.add o fd.offset))
 | .mY b n i j=>.ret (.mY b n i (Nat.add j fd.offset))
 | .og c y j=>.ret (.og c y (Nat.add j fd.offset))
 | _=>.fail)
def Lx (t:TypeId) (x:AV D.E) (f:Nat):C (AV D.E):=aB (vR P t) λd=>aB (Lq d) λa=>aB (asAgg x) λcs=>aB (dg (ic a f)) λfd=>kD P D fd.type cs fd.offset
def AA (t:TypeId) (x i:AV D.E):C (AV D.E):=aB (vR P t) λd=>match d with
 | .slice e=>aB (sz P e) λk=>aP (cQ i) λ_ i=>match x with
  | .list c xs=>bB (Nat.beq k (D.size c)) (ask (aM zI i) (ask (aD i (ab xs)) (.ret (.og c (gt (D.Zt c) xs i.toNat) (nat_lit 0)))))
  | .grow c xs _=>bB (Nat.beq k (D.size c)) (ask (aM zI i) (ask (aD i (ab xs)) (.ret (.og c (gt (D.Zt c) xs i.toNat) (nat_lit 0)))))
  | .own b a n=>bB (Nat.beq a k) <| ask (aM zI i) (ask (aD i n) (.ret (.mY b k i.toNat (nat_lit 0))))
  | .pre b a n=>bB (Nat.beq a k) <| ask (aM zI i) (ask (aD i n) (.ret (.mY b k i.toNat (nat_lit 0))))
  | .part b a o n=>bB (Nat.beq a k) <| ask (aM zI i) (ask (aD i n) (.ret (.mY b k (o+i).toNat (nat_lit 0))))
  | _=>.fail
 | .array len e=>aB (sz P e) λk=>bB (Nat.ble (nat_lit 1) k) (aB (asN i) λi=>bB (Nat.ble (Nat.succ i) len) (match x with
  | .ptr b o=>.ret (.ptr b (Nat.add o (Nat.mul i k)))
  | .mY b n m j=>.ret (.mY b n m (Nat.add j (Nat.mul i k)))
  | .og c y j=>.ret (.og c y (Nat.add j (Nat.mul i k)))
  | _=>.fail))
 | _=>.fail
def Ly (t:TypeId) (x i:AV D.E):C (AV D.E):=aB (vR P t) λd=>match d with
 | .string=>aP (cQ i) λ_ i=>aB (iO x) λl=>ask (aM zI i) (ask (aD i (fo l)) (.ret (.int .u8 (sat l i))))
 | .array len e=>aB (sz P e) λk=>aB (asN i) λi=>aB (asAgg x) λcs=>bB (Nat.ble (Nat.succ i) len) (kD P D e cs (Nat.mul i k))
 | _=>.fail
def AB (x:AV D.E) (i:Nat):C (AV D.E):=aB (Q_ x) λl=>dg (ic l i)
def wD (s:St D.E) (b:Nat) (o n:Int) (k:Nat) (z:List (AV D.E)):C (AV D.E×St D.E):=aB (lh s b) λa=>match a with
 | ⟨c,xs,d,ro⟩=>bB (Nat.beq (l7 z) (D.size c)) (bB (Nat.beq k (D.size c)) (aB (ug D c z) λy=>Bool.rec (motive:=λ_=>C (AV D.E×St D.E)) (aB (s.set b (some (.arr c (Ax xs o n (pq n y)) d false))) λs=>.ret (undef,s)) .fail ro))
def LA (s:St D.E) (t:TypeId) (x:AV D.E):C (AV D.E×St D.E):=aB (vR P t) λd=>aB (vd d) λe=>aB (zeroOf P D e) λz=>aB (sz P e) λk=>match x with
 | .own b _ n=>wD D s b zI n k (dr z)
 | .pre b _ n=>wD D s b zI n k (dr z)
 | .part b _ o n=>wD D s b o n k (dr z)
 | .dc=>.ret (undef,s)
 | _=>.fail
def pF (mn:Bool) (e:List (AV D.E)):AV D.E->C (AV D.E):=
 List.rec (motive:=λ_=>AV D.E->C (AV D.E)) (λv=>.ret v) (λy _ c x=>aP (cQ x) λk a=>aP (cQ y) λd b=>bB (Cj k d) (c (.int k (bif mn then gu a b else imax a b)))) e
def jd (s:St D.E) (x:C (AV D.E)):C (AV D.E×St D.E):=aB x λv=>.ret (v,s)
def Qjb (x:C (St D.E)):C (AV D.E×St D.E):=aB x λs=>.ret (undef,s)
def settle (v:AV D.E):C (AV D.E):=match v with
 | .bool b=>.split b (.ret (.lit true)) (.ret (.lit false))
 | v=>.ret v
def Ef (v:AV D.E):C Bool:=match v with
 | .lit b=>.ret b
 | .bool b=>.split b (.ret true) (.ret false)
 | _=>.fail
def QfJ (c a b:AV D.E):C (AV D.E):=aB (Ef D c) λc=>bE c (.ret a) (.ret b)
def Rr (s:St D.E) (e:TypeId) (cs:List (AV D.E)):C (AV D.E×St D.E):=bB (j7 one cs) (aP (s.new (.cells cs e false)) λb s=>.ret (.ptr b (nat_lit 0),s))
end
abbrev zK (E:Nat->Type):=FuncId->List (AV E)->St E->C (AV E×St E)
def Zz {E:Nat->Type}:zK E:=λ_ _ _=>.fail
section
variable (P:Program) (D:Data) (cd:TypeId->Option Nat)
def kV (mu:Bool) (b:Builtin) (s:St D.E) (c:List TypeId) (a:List (AV D.E)):C (AV D.E×St D.E):=match b with
 | .append=>aB (dg (ic c (nat_lit 0))) λt=>aB (dg (ic c (nat_lit 1))) λu=>aB (dg (ic a (nat_lit 0))) λd=>aB (dg (ic a (nat_lit 1))) λx=>Lt P D cd mu s t u d x
 | .copy=>aB (dg (ic c (nat_lit 0))) λt=>aB (dg (ic a (nat_lit 0))) λd=>aB (dg (ic a (nat_lit 1))) λx=>Qdq P D cd s t d x
 | .len=>aB (dg (ic c (nat_lit 0))) λt=>aB (dg (ic a (nat_lit 0))) λx=>jd D s (Qi6 P D t x)
 | .min=>aB (dg (ic a (nat_lit 0))) λx=>jd D s (pF D true (o9 (nat_lit 1) a) x)
 | .max=>aB (dg (ic a (nat_lit 0))) λx=>jd D s (pF D false (o9 (nat_lit 1) a) x)
 | .clear=>aB (dg (ic c (nat_lit 0))) λt=>aB (dg (ic a (nat_lit 0))) λx=>LA P D s t x
 | _=>.fail
def Qjc (v:AV D.E):C (FuncId×List (AV D.E)×List (AV D.E)):=match v with
 | .func fn first captured=>match fn with
  | .func f=>.ret (f,first,captured)
  | _=>.fail
 | _=>.fail
def Qds (φ:T (AV D.E)) (x:Operand) (c:Call):C (FuncId×List (AV D.E)):=aB (ev P D φ x) λv=>aP (Qjc D v) λf p=>aB (Ra P D φ c.args.toList) λargs=>match p with
 | (a,cs)=>.ret (f,oe a (oe args cs))
def Qjd (mu:Bool) (c:Callee) (ex:zK D.E) (s:St D.E) (φ:T (AV D.E)) (cl:Call):C (AV D.E×St D.E):=match c with
 | .value x=>aP (Qds P D φ x cl) λf args=>ex f args s
 | .builtin b=>aB (Ra P D φ cl.args.toList) λa=>kV P D cd mu b s cl.argTypes.toList a
 | _=>.fail
def opF (mu:Bool) (op:Op) (ex:zK D.E) (s:St D.E) (φ:T (AV D.E)):C (AV D.E×St D.E):=match op with
 | .move x=>jd D s (ev P D φ x)
 | .assign x=>jd D s (ev P D φ x)
 | .pick c a b=>aB (ev P D φ c) λc=>aB (ev P D φ a) λa=>aB (ev P D φ b) λb=>jd D s (QfJ D c a b)
 | .alloc e=>aB (zeroOf P D e) λz=>Rr D s e (dr z)
 | .box e x=>aB (ev P D φ x) λv=>Rr D s e (dr v)
 | .build t parts=>jd D s (Lv P D φ t parts.toList)
 | .buildSlice t len parts=>Az P D cd mu s φ t len parts.toList
 | .load t a=>aB (ev P D φ a) λv=>jd D s (Eb P D s t v)
 | .store t a x=>aB (ev P D φ a) λa=>aB (ev P D φ x) λx=>Qjb D (Lr P D s t a x)
 | .nilCheck x=>aB (ev P D φ x) λv=>jd D s (Rp D v)
 | .binOp op t d g _=>aB (ev P D φ d) λx=>aB (ev P D φ g) λy=>jd D s (Qi4 P D op t d g x y)
 | .unOp op _ x=>aB (ev P D φ x) λx=>jd D s (unA D op x)
 | .convert a b x=>aB (ev P D φ x) λx=>Rq P D cd mu s a b x
 | .makeInterface t x=>aB (ev P D φ x) λx=>jd D s (Lw P D t x)
 | .makeFunc fn first captured=>aB (Ra P D φ first.toList) λf=>aB (Ra P D φ captured.toList) λc=>.ret (.func fn f c,s)
 | .makeSlice t l c=>aB (ev P D φ l) λl=>aB (ev P D φ c) λc=>Ee P D cd mu s t l c
 | .slice t x lo hi mx=>aB (ev P D φ x) λx=>aB (evO P D φ lo) λlo=>aB (evO P D φ hi) λhi=>aB (evO P D φ mx) λmx=>jd D s (Rk P D t x lo hi mx)
 | .fieldAddr t x f=>aB (ev P D φ x) λx=>jd D s (ve P D t x f)
 | .field t x f=>aB (ev P D φ x) λx=>jd D s (Lx P D t x f)
 | .indexAddr t x i=>aB (ev P D φ x) λx=>aB (ev P D φ i) λi=>jd D s (AA P D t x i)
 | .index t x i=>aB (ev P D φ x) λx=>aB (ev P D φ i) λi=>jd D s (Ly P D t x i)
 | .extract t i=>aB (ev P D φ t) λx=>jd D s (AB D x i)
 | .call c=>Qjd P D cd mu c.callee ex s φ c
 | _=>.fail
end
def QfK (d:TypeDesc):Option TypeId:=match d with
 | .slice e=>some e
 | _=>none
def Qje (d:TypeDesc):Option (TypeId×TypeId):=match d with
 | .map k v=>some (k,v)
 | _=>none
section
variable (P:Program)
def Qjf (b:Builtin) (a:List TypeId):Nat:=match b with
 | .len=>match a with
  | t::_=>Option.rec (motive:=λ_=>Nat) (nat_lit 3) (λd=>Option.rec (motive:=λ_=>Nat) (nat_lit 1) (λ_=>nat_lit 2) (Qje d)) (P.underlying t)
  | []=>nat_lit 3
 | .min=>nat_lit 1
 | .max=>nat_lit 1
 | _=>nat_lit 3
def je (o:Oper):Nat:=match o.op with
 | .move _=>nat_lit 1
 | .assign _=>nat_lit 1
 | .pick _ _ _=>nat_lit 1
 | .alloc _=>nat_lit 1
 | .box _ _=>nat_lit 1
 | .build _ _=>nat_lit 1
 | .buildSlice _ _ _=>nat_lit 1
 | .nilCheck _=>nat_lit 1
 | .binOp _ _ _ _ _=>nat_lit 1
 | .unOp _ _ _=>nat_lit 1
 | .makeInterface _ _=>nat_lit 1
 | .makeFunc _ _ _=>nat_lit 1
 | .makeMap _ _=>nat_lit 1
 | .makeSlice _ _ _=>nat_lit 1
 | .slice _ _ _ _ _=>nat_lit 1
 | .fieldAddr _ _ _=>nat_lit 1
 | .field _ _ _=>nat_lit 1
 | .indexAddr _ _ _=>nat_lit 1
 | .index _ _ _=>nat_lit 1
 | .extract _ _=>nat_lit 1
 | .load _ _=>nat_lit 2
 | .lookup _ _ _ _=>nat_lit 2
 | .convert src _ _=>Option.rec (motive:=λ_=>Nat) (nat_lit 3) (λd=>Option.rec (motive:=λ_=>Nat) (nat_lit 1) (λ_=>nat_lit 2) (QfK d)) (P.underlying src)
 | .call c=>match c.callee with
  | .builtin b=>Qjf P b c.argTypes.toList
  | _=>nat_lit 3
 | _=>nat_lit 3
def xi (ms:List Nat) (es:List Edge):Nat->Option Nat:=
 List.rec (motive:=λ_=>Nat->Option Nat) (λm=>some m)
  (λe _ a m=>oE (Region.binds .any e) (oB (ic ms e.on) λk=>a (Nat.lor (Nat.lor m (Nat.pow (nat_lit 2) e.on)) k)) (a m)) es
def LB (os:List Oper):List Nat->Option (List Nat):=
 List.rec (motive:=λ_=>List Nat->Option (List Nat)) (λms=>some ms)
  (λo _ a ms=>oB (xi ms o.after.toList (nat_lit 0)) λm=>a (oe ms [m])) os
def kE (ms:List Nat) (i j:Nat):Bool:=Option.rec (motive:=λ_=>Bool) false (λm=>Nat.beq (Nat.mod (Nat.div m (Nat.pow (nat_lit 2) i)) (nat_lit 2)) (nat_lit 1)) (ic ms j)
def Cq (d:Nat) (x:Operand):Bool:=match x with
 | .tmp t=>Nat.beq t d
 | _=>false
def Cr (ops:List Oper) (o:Oper):Option Tmp:=oB o.guard λp=>oB (ic ops p.1) λx=>x.dst
def reads (ops:List Oper) (o:Oper) (d:Nat):Bool:=Bool.or (Cl (Cq d) o.op.operands.toList) (Option.rec (motive:=λ_=>Bool) false (λt=>Nat.beq t d) (Cr ops o))
def ordered (ms:List Nat) (i j:Nat):Bool:=Bool.or (kE ms i j) (kE ms j i)
def Rs (ops:List Oper) (ms:List Nat) (i j:Nat) (a b:Oper):Bool:=
 Bool.or (Nat.beq i j) (Bool.and (Option.rec (motive:=λ_=>Bool) true (λd=>Bool.and (Bool.or (ordered ms i j) (Bool.not (reads ops a d))) (Option.rec (motive:=λ_=>Bool) true (λe=>Bool.not (Nat.beq d e)) a.dst)) b.dst)
  (Bool.or (Bool.not (Bool.and (Nat.beq (je P a) (nat_lit 3)) (Nat.beq (je P b) (nat_lit 3)))) (ordered ms i j)))
def LC {α:Type} (f:Nat->α->Bool) (l:List α):Nat->Bool:=
 List.rec (motive:=λ_=>Nat->Bool) (λ_=>true) (λa _ b i=>Bool.rec (motive:=λ_=>Bool) false (b (Nat.succ i)) (f i a)) l
def Rt (o:Oper):Bool:=match o.op with
 | .select _ _=>false
 | _=>true
def Cs (ms:List Nat) (i:Nat) (o:Oper):Bool:=Option.rec (motive:=λ_=>Bool) true (λp=>kE ms p.1 i) o.guard
def Eg (ops:List Oper):Option (List Nat):=oB (LB ops []) λms=>
 oI (LC (λi a=>Bool.and (Bool.and (Rt a) (Cs ms i a)) (LC (λj b=>Rs P ops ms i j a b) ops (nat_lit 0))) ops (nat_lit 0)) (some ms)
end
section
variable {E:Nat->Type}
def fv:C Unit:=.ret ()
def xj (b:Bool):C Unit:=bB b fv
def ZA (a b:Fn):Bool:=match a with
 | .func f=>match b with
  | .func g=>Nat.beq f g
  | _=>false
 | _=>false
def xk (x y:AV E):C Unit:=match x with
 | .bool a=>aP (xg y) λb _=>.fQ (a=b) fv
 | .lit a=>match y with
  | .lit b=>xj (Bool.rec (motive:=λ_=>Bool) (Bool.not b) b a)
  | .bool b=>.fQ (a=b) fv
  | _=>.fail
 | .int k a=>aP (cQ y) λf b=>bB (Cj k f) (.fQ (a=b) fv)
 | .num k a=>match y with
  | .num f b=>bB (Cj k f) (xj (Zg a b))
  | .int f b=>bB (Cj k f) (.fQ (a=b) fv)
  | _=>.fail
 | .str a=>aB (iO y) λb=>.fQ (a=b) fv
 | .fY=>match y with
  | .fY=>fv
  | _=>.fail
 | .ptr b o=>match y with
  | .ptr d h=>xj (Bool.and (Nat.beq b d) (Nat.beq o h))
  | _=>.fail
 | .lg b o=>match y with
  | .lg d h=>xj (Bool.and (Nat.beq b d) (Nat.beq o h))
  | _=>.fail
 | .mY b k i j=>match y with
  | .mY d f q m=>bB (Bool.and (Nat.beq b d) (Bool.and (Nat.beq k f) (Nat.beq j m))) (.fQ (i=q) fv)
  | _=>.fail
 | .og c x j=>match y with
  | .og l p m=>bB (Nat.beq j m) (aB (Lp c l p) λp=>.fQ (x=p) fv)
  | _=>.fail
 | .dc=>match y with
  | .dc=>fv
  | _=>.fail
 | .own b k n=>match y with
  | .own d f g=>bB (Bool.and (Nat.beq b d) (Nat.beq k f)) (.fQ (n=g) fv)
  | _=>.fail
 | .pre b k n=>match y with
  | .pre d f g=>bB (Bool.and (Nat.beq b d) (Nat.beq k f)) (.fQ (n=g) fv)
  | _=>.fail
 | .part b k o n=>match y with
  | .part d f h g=>bB (Bool.and (Nat.beq b d) (Nat.beq k f)) (.fQ (o=h) (.fQ (n=g) fv))
  | _=>.fail
 | .grow c xs b=>match y with
  | .grow l e d=>bB (Nat.beq b d) (aB (h_ c l e) λe=>.fQ (xs=e) fv)
  | _=>.fail
 | .sub b o n=>match y with
  | .sub d h g=>xj (Bool.and (Nat.beq b d) (Bool.and (Nat.beq o h) (Nat.beq n g)))
  | _=>.fail
 | .list c xs=>match y with
  | .list l e=>aB (h_ c l e) λe=>.fQ (xs=e) fv
  | _=>.fail
 | .rD=>match y with
  | .rD=>fv
  | _=>.fail
 | .map a=>match y with
  | .map b=>xj (Nat.beq a b)
  | _=>.fail
 | .nilFunc=>match y with
  | .nilFunc=>fv
  | _=>.fail
 | .nilIface=>match y with
  | .nilIface=>fv
  | _=>.fail
 | _=>.fail
def AD (xs:List (AV E)):List (AV E)->C Unit:=
 List.rec (motive:=λ_=>List (AV E)->C Unit) (λa=>List.rec (motive:=λ_=>C Unit) fv (λ_ _ _=>.fail) a)
  (λx _ b a=>List.rec (motive:=λ_=>C Unit) .fail (λy a _=>aB (xk x y) λ_=>b a) a) xs
def Ru (x y:AV E):C Unit:=match x with
 | .agg xs=>match y with
  | .agg a=>AD xs a
  | _=>.fail
 | .tuple xs=>match y with
  | .tuple a=>AD xs a
  | _=>.fail
 | .func f xs a=>match y with
  | .func g b c=>bB (ZA f g) (aB (AD xs b) λ_=>AD a c)
  | _=>.fail
 | x=>xk x y
end
section
variable (P:Program) (D:Data) (cd:TypeId->Option Nat)
def guards (ops:List Oper) (i:Nat):Bool:=Cl (λo=>Option.rec (motive:=λ_=>Bool) false (λp=>Nat.beq p.1 i) o.guard) ops
def yA (ops:List Oper) (φ:T (AV D.E)) (j:Nat):Option (AV D.E):=oB (ic ops j) λo=>oB o.dst λt=>φ.get t
def LD (w:Bool) (v:AV D.E):C Bool:=match v with
 | .lit b=>.ret (Bool.rec (motive:=λ_=>Bool) (Bool.not w) w b)
 | .bool b=>.split b (.ret w) (.ret (Bool.not w))
 | _=>.ret false
def na (ops:List Oper) (φ:T (AV D.E)) (o:Oper):C Bool:=match o.guard with
 | none=>.ret true
 | some p=>match p with
  | (j,w)=>aB (dg (yA D ops φ j)) λv=>LD D w v
def xl (N:Nat) (φ:T (AV D.E)) (d:Option Tmp) (v:AV D.E):C (T (AV D.E)):=
 Option.rec (motive:=λ_=>C (T (AV D.E))) (.ret φ) (λt=>bB (Nat.ble (Nat.succ t) N) (dg (φ.put t (some v)))) d
def LF (mu:Bool) (g:Bool) (op:Op) (ex:zK D.E) (s:St D.E) (φ:T (AV D.E)):C (AV D.E×St D.E):=
 bif g then aP (opF P D cd mu op ex s φ) (λv s=>aB (settle D v) λv=>.ret (v,s)) else opF P D cd mu op ex s φ
def xm (mu:Bool) (ex:zK D.E) (ops:List Oper) (N:Nat) (l:List Oper):Nat->St D.E->T (AV D.E)->C (St D.E×T (AV D.E)):=
 List.rec (motive:=λ_=>Nat->St D.E->T (AV D.E)->C (St D.E×T (AV D.E))) (λ_ s φ=>.ret (s,φ))
  (λo _ a i s φ=>aB (na D ops φ o) λb=>bE b
   (aP (LF P D cd mu (guards ops i) o.op ex s φ) λv c=>aB (xl D N φ o.dst v) λφ=>bB (Nat.ble s.nx c.nx) (a (Nat.succ i) c φ))
   (aB (xl D N φ o.dst undef) λφ=>a (Nat.succ i) s φ)) l
structure Rc where
 o:Oper
 g:Bool
 cls:Nat
 v:AV D.E
 φ:T (AV D.E)
 lo:Nat
 hi:Nat
 pc:T (AO D.E)
def piece (r:Rc D):Bool:=Bool.and (Nat.beq r.cls (nat_lit 1)) (Nat.ble (Nat.succ r.lo) r.hi)
def lj (sF:Nat->Bool) (rs:List (Rc D)):Nat->T (AO D.E)->C (T (AO D.E)):=
 List.rec (motive:=λ_=>Nat->T (AO D.E)->C (T (AO D.E))) (λ_ h=>.ret h)
  (λr _ a j h=>bE (Bool.and (piece D r) (sF j)) (aB (dg (r.pc.get r.lo)) λo=>aB (dg (h.put r.lo (some o))) λh=>a (Nat.succ j) h) (a (Nat.succ j) h)) rs
def loadAt (g:Bool) (φ:T (AV D.E)) (o:Oper) (sF:Nat->Bool) (rs:List (Rc D)) (h:T (AO D.E)):C (AV D.E):=
 aB (lj D sF rs (nat_lit 0) h) λk=>aP (LF P D cd false g o.op Zz ⟨k,nat_lit 0⟩ φ) λv _=>.ret v
def Rv (x:Operand):Option Tmp:=match x with
 | .tmp t=>some t
 | _=>none
def AE (φ:T (AV D.E)) (c:List (Option Tmp)):T (AV D.E)->C (T (AV D.E)):=
 List.rec (motive:=λ_=>T (AV D.E)->C (T (AV D.E))) (λa=>.ret a)
  (λx _ b a=>Option.rec (motive:=λ_=>C (T (AV D.E))) (b a) (λt=>Option.rec (motive:=λ_=>C (T (AV D.E))) (b a) (λv=>aB (dg (a.put t (some v))) λa=>b a) (φ.get t)) x) c
def qG (ops:List Oper) (o:Oper):List (Option Tmp):=Cr ops o::ub Rv o.op.operands.toList
structure Ds where
 φ:T (AV D.E)
 h:T (AO D.E)
 hs:List (T (AO D.E))
 nx:Nat
 last:Nat
 es:List Nat
 rs:List (Rc D)
def ct (ms:List Nat) (last j:Nat):Bool:=Nat.rec (motive:=λ_=>Bool) true (λe _=>Bool.not (kE ms j e)) last
def Rw (mu:Bool) (N:Nat) (g:Bool) (o:Oper) (a:T (AV D.E)) (d:Ds D):C (Ds D):=aP (LF P D cd mu g o.op Zz ⟨.nil,d.nx⟩ a) λv s=>aB (xl D N d.φ o.dst v) λφ=>bB (Bool.and (Nat.ble d.nx s.nx) (Nat.ble s.nx (Nat.succ d.nx)))
 (.ret ⟨φ,d.h,d.hs,s.nx,d.last,d.es,oe d.rs [⟨o,g,nat_lit 1,v,a,d.nx,s.nx,s.h⟩]⟩)
def Rx (N:Nat) (ms:List Nat) (i:Nat) (g:Bool) (o:Oper) (a:T (AV D.E)) (d:Ds D):C (Ds D):=aB (loadAt P D cd g a o (λj=>Bool.and (kE ms j i) (ct ms d.last j)) d.rs d.h) λv=>aB (xl D N d.φ o.dst v) λφ=>
 .ret ⟨φ,d.h,d.hs,d.nx,d.last,d.es,oe d.rs [⟨o,g,nat_lit 2,v,a,d.nx,d.nx,.nil⟩]⟩
def ZB (mu:Bool) (ex:zK D.E) (N:Nat) (ms:List Nat) (i:Nat) (g:Bool) (o:Oper) (a:T (AV D.E)) (d:Ds D):C (Ds D):=bB (Nat.beq (je P o) (nat_lit 3)) (aB (lj D (λj=>Bool.and (kE ms j i) (ct ms d.last j)) d.rs (nat_lit 0) d.h) λk=>
 aP (LF P D cd mu g o.op ex ⟨k,d.nx⟩ a) λv s=>aB (xl D N d.φ o.dst v) λφ=>bB (Nat.ble d.nx s.nx) (.ret ⟨φ,s.h,oe d.hs [s.h],s.nx,Nat.succ i,oe d.es [i],oe d.rs [⟨o,g,nat_lit 3,v,a,d.nx,s.nx,.nil⟩]⟩))
def Ry (N:Nat) (g:Bool) (o:Oper) (a:T (AV D.E)) (d:Ds D):C (Ds D):=aB (xl D N d.φ o.dst undef) λφ=>.ret ⟨φ,d.h,d.hs,d.nx,d.last,d.es,oe d.rs [⟨o,g,nat_lit 0,undef,a,d.nx,d.nx,.nil⟩]⟩
def Ct (mu:Bool) (ex:zK D.E) (ops:List Oper) (N:Nat) (ms:List Nat) (i:Nat) (o:Oper) (d:Ds D):C (Ds D):=aB (AE D d.φ (qG ops o) .nil) λa=>aB (na D ops a o) λb=>bE b
 (bE (Nat.beq (je P o) (nat_lit 1)) (Rw P D cd mu N (guards ops i) o a d) (bE (Nat.beq (je P o) (nat_lit 2)) (Rx P D cd N ms i (guards ops i) o a d) (ZB P D cd mu ex N ms i (guards ops i) o a d)))
 (Ry D N (guards ops i) o a d)
def Cu (mu:Bool) (ex:zK D.E) (ops:List Oper) (N:Nat) (ms:List Nat) (l:List Oper):Nat->Ds D->C (Ds D):=
 List.rec (motive:=λ_=>Nat->Ds D->C (Ds D)) (λ_ d=>.ret d) (λo _ a i d=>aB (Ct P D cd mu ex ops N ms i o d) λd=>a (Nat.succ i) d) l
def Cv (ms:List Nat) (rs:List (Rc D)) (i last:Nat) (r:Rc D) (h:T (AO D.E)):C Unit:=aB (loadAt P D cd r.g r.φ r.o (λj=>Bool.and (kE ms j i) (ct ms last j)) rs h) λv=>Ru v r.v
def pG (ms:List Nat) (i last:Nat) (es:List Nat):Bool:=Bool.and (ct ms last i) (List.rec (motive:=λ_=>Bool) true (λe _ _=>Bool.not (kE ms e i)) es)
def kM (ms:List Nat) (rs:List (Rc D)) (i:Nat) (r:Rc D) (hs:List (T (AO D.E))):Nat->List Nat->C Unit:=
 List.rec (motive:=λ_=>Nat->List Nat->C Unit) (λ_ _=>fv)
  (λh _ a last es=>aB (bE (pG ms i last es) (Cv P D cd ms rs i last r h) fv) λ_=>List.rec (motive:=λ_=>C Unit) fv (λe es _=>a (Nat.succ e) es) es) hs
def HS (ms:List Nat) (all:List (Rc D)) (hs:List (T (AO D.E))) (es:List Nat) (l:List (Rc D)):Nat->C Unit:=
 List.rec (motive:=λ_=>Nat->C Unit) (λ_=>fv) (λr _ a i=>aB (bE (Nat.beq r.cls (nat_lit 2)) (kM P D cd ms all i r hs (nat_lit 0) es) fv) λ_=>a (Nat.succ i)) l
def Rz (mu:Bool) (ex:zK D.E) (ops:List Oper) (N:Nat) (s:St D.E) (φ:T (AV D.E)):C (St D.E×T (AV D.E)):=aB (dg (Eg P ops)) λms=>aB (Cu P D cd mu ex ops N ms ops (nat_lit 0) ⟨φ,s.h,[s.h],s.nx,nat_lit 0,[],[]⟩) λd=>
 aB (HS P D cd ms d.rs d.hs d.es d.rs (nat_lit 0)) λ_=>
  aB (lj D (ct ms d.last) d.rs (nat_lit 0) d.h) λh=>.ret (⟨h,d.nx⟩,d.φ)
end
abbrev Ren:=List (Nat×Nat)
def ep (r:Ren) (t:Nat):Option Nat:=List.rec (motive:=λ_=>Option Nat) none (λp _ a=>bif Nat.beq p.1 t then some p.2 else a) r
def zT (r:Ren) (b:Nat):Bool:=Cl (λp=>Nat.beq p.2 b) r
def cM.{u} {α:Type u} (l:List (Nat×α)) (t:Nat):Option α:=List.rec (motive:=λ_=>Option α) none (λp _ a=>bif Nat.beq p.1 t then some p.2 else a) l
structure Mt (E:Nat->Type) where
 s:St E
 r:Ren
 todo:Ren
section
variable (D:Data)
def pair (m:Mt D.E) (t b:Nat):C (Mt D.E):=Option.rec (motive:=λ_=>C (Mt D.E)) (bE (zT m.r b) .fail (.ret ⟨m.s,(t,b)::m.r,(t,b)::m.todo⟩)) (λa=>bB (Nat.beq a b) (.ret m)) (ep m.r t)
def LG (m:Mt D.E) (t b:Nat):C (Mt D.E):=bE (zT m.r b) .fail (pair D m t b)
def sP (m:Mt D.E) (b:Nat):C (Ar D.E×Mt D.E):=bE (zT m.r b) .fail (aB (lh m.s b) λa=>aB (m.s.set b (some (.arr a.c a.xs a.e true))) λs=>.ret (a,⟨s,m.r,m.todo⟩))
def RA (m:Mt D.E) (a:AV D.E) (c:Nat) (d:List (D.E c)):C (Mt D.E):=match a with
 | .list e xs=>aB (h_ c e xs) λxs=>.fQ (xs=d) (.ret m)
 | .grow e xs _=>aB (h_ c e xs) λxs=>.fQ (xs=d) (.ret m)
 | .dc=>.fQ ([]=d) (.ret m)
 | .own b _ _=>aP (sP D m b) λa m=>aB (h_ c a.c a.xs) λxs=>.fQ (xs=d) (.ret m)
 | .pre b _ n=>aP (sP D m b) λa m=>aB (h_ c a.c a.xs) λxs=>.fQ (c_ xs n=d) (.ret m)
 | .part b _ o n=>aP (sP D m b) λa m=>aB (h_ c a.c a.xs) λxs=>.fQ (sO xs o n=d) (.ret m)
 | _=>.fail
def Qdu (th:List (Nat×AO D.E)) (m:Mt D.E) (a k:Nat) (n:Int):C (Mt D.E):=aB (dg (cM th a)) λo=>match o with
 | .arr c _ e _=>bB (Nat.beq (D.size c) k) (aP (m.s.new (.arr c [] e false)) λb s=>.fQ (.ofNat (nat_lit 0)=n) (LG D ⟨s,m.r,m.todo⟩ a b))
 | _=>.fail
def Qdv (th:List (Nat×AO D.E)) (m:Mt D.E) (a:Nat) (c:Nat) (d:List (D.E c)):C (Mt D.E):=aB (dg (cM th a)) λo=>match o with
 | .tok c2 e=>aP (m.s.new (.tok c2 e)) λb s=>.fQ ([]=d) (LG D ⟨s,m.r,m.todo⟩ a b)
 | _=>.fail
def QfL (m:Mt D.E) (b f:Nat) (d:Int) (g k:Nat) (n:Int):C (Mt D.E):=bE (zT m.r b) .fail (bB (Nat.beq f k) (aB (lh m.s b) λa=>bE a.ro .fail
 (aB (m.s.set b none) λs=>aP (s.new (.arr a.c (c_ a.xs d) a.e false)) λb s=>.fQ (d=n) (LG D ⟨s,m.r,m.todo⟩ g b))))
def QfM (m:Mt D.E) (a:AV D.E) (c:Nat) (y:D.E c) (j:Nat):C (Mt D.E):=match a with
 | .og f x d=>bB (Nat.beq d j) (aB (Lp c f x) λx=>.fQ (x=y) (.ret m))
 | .mY b _ i d=>bB (Nat.beq d j) (aP (sP D m b) λa m=>aB (h_ c a.c a.xs) λxs=>.fQ (gt (D.Zt c) xs i=y) (.ret m))
 | .ptr b o=>bB (Bool.and (Nat.beq o (nat_lit 0)) (Nat.beq j (nat_lit 0))) (bE (zT m.r b) .fail (aP (QfF m.s b) λcs e=>aB (ug D c cs) λx=>aB (m.s.set b (some (.cells cs e true))) λs=>.fQ (x=y) (.ret ⟨s,m.r,m.todo⟩)))
 | _=>.fail
def m0 (th:List (Nat×AO D.E)) (m:Mt D.E) (a t:AV D.E):C (Mt D.E):=match t with
 | .list c h=>RA D m a c h
 | .grow c h d=>match a with
  | .grow l xs b=>aB (h_ c l xs) λxs=>.fQ (xs=h) (pair D m d b)
  | .dc=>Qdv D th m d c h
  | _=>.fail
 | .own d k n=>match a with
  | .own b e f=>bB (Nat.beq e k) (.fQ (f=n) (pair D m d b))
  | .pre b e f=>QfL D m b e f d k n
  | .dc=>Qdu D th m d k n
  | _=>.fail
 | .pre d k n=>match a with
  | .pre b e f=>bB (Nat.beq e k) (.fQ (f=n) (pair D m d b))
  | .own b e f=>bB (Nat.beq e k) (.fQ (f=n) (pair D m d b))
  | _=>.fail
 | .part d k o n=>match a with
  | .part b e g f=>bB (Nat.beq e k) (.fQ (g=o) (.fQ (f=n) (pair D m d b)))
  | _=>.fail
 | .ptr d o=>match a with
  | .ptr b g=>bB (Nat.beq g o) (pair D m d b)
  | _=>.fail
 | .mY d k i j=>match a with
  | .mY b e p q=>bB (Bool.and (Nat.beq e k) (Nat.beq q j)) (.fQ (p=i) (pair D m d b))
  | _=>.fail
 | .sub d o n=>match a with
  | .sub b g f=>bB (Bool.and (Nat.beq g o) (Nat.beq f n)) (pair D m d b)
  | _=>.fail
 | .og c y j=>QfM D m a c y j
 | .map _=>.fail
 | t=>aB (xk a t) λ_=>.ret m
def mL (th:List (Nat×AO D.E)) (Qz8:List (AV D.E)):List (AV D.E)->Mt D.E->C (Mt D.E):=
 List.rec (motive:=λ_=>List (AV D.E)->Mt D.E->C (Mt D.E)) (λb m=>List.rec (motive:=λ_=>C (Mt D.E)) (.ret m) (λ_ _ _=>.fail) b)
  (λa _ c b m=>List.rec (motive:=λ_=>C (Mt D.E)) .fail (λt b _=>aB (m0 D th m a t) λm=>c b m) b) Qz8
def mV (th:List (Nat×AO D.E)) (m:Mt D.E) (a t:AV D.E):C (Mt D.E):=match t with
 | .agg b=>match a with
  | .agg Qz8=>mL D th Qz8 b m
  | _=>.fail
 | .tuple b=>match a with
  | .tuple Qz8=>mL D th Qz8 b m
  | _=>.fail
 | .func g xs i=>match a with
  | .func f c d=>bB (ZA f g) (aB (mL D th c xs m) λm=>mL D th d i m)
  | _=>.fail
 | .iface u x=>match a with
  | .iface e h=>bB (Nat.beq e u) (m0 D th m h x)
  | _=>.fail
 | t=>m0 D th m a t
def mVs (th:List (Nat×AO D.E)) (Qz8:List (AV D.E)):List (AV D.E)->Mt D.E->C (Mt D.E):=
 List.rec (motive:=λ_=>List (AV D.E)->Mt D.E->C (Mt D.E)) (λb m=>List.rec (motive:=λ_=>C (Mt D.E)) (.ret m) (λ_ _ _=>.fail) b)
  (λa _ c b m=>List.rec (motive:=λ_=>C (Mt D.E)) .fail (λt b _=>aB (mV D th m a t) λm=>c b m) b) Qz8
def mO (th:List (Nat×AO D.E)) (m:Mt D.E) (a t:AO D.E):C (Mt D.E):=match t with
 | .cells g e ro=>match a with
  | .cells Qz8 d b=>bB (Bool.and (Nat.beq d e) (Bool.rec (motive:=λ_=>Bool) (Bool.not b) b ro)) (mVs D th Qz8 g m)
  | _=>.fail
 | .arr c h e ro=>match a with
  | .arr f xs d b=>bB (Bool.and (Nat.beq d e) (Bool.rec (motive:=λ_=>Bool) (Bool.not b) b ro)) (aB (h_ c f xs) λxs=>.fQ (xs=h) (.ret m))
  | _=>.fail
 | .tok c e=>match a with
  | .tok f d=>bB (Bool.and (Nat.beq f c) (Nat.beq d e)) (.ret m)
  | _=>.fail
def RC (th:List (Nat×AO D.E)) (n:Nat):Mt D.E->C (Mt D.E):=
 Nat.rec (motive:=λ_=>Mt D.E->C (Mt D.E)) (λ_=>.fail)
  (λ_ b m=>List.rec (motive:=λ_=>C (Mt D.E)) (.ret m) (λp r _=>aB (dg (cM th p.1)) λt=>aB (dg (m.s.h.get p.2)) λa=>aB (mO D th ⟨m.s,m.r,r⟩ a t) b) m.todo) n
def RE (s:St D.E) (r:Ren) (th:List (Nat×AO D.E)) (Qz8 a:List (AV D.E)):C (St D.E×Ren):=aB (mVs D th Qz8 a ⟨s,r,r⟩) λm=>aB (RC D th (nat_lit 200) m) λm=>
 bB (j7 (λp=>Option.isSome (ep m.r p.1)) th) (.ret (m.s,m.r))
structure Iv (p:Prop):Prop where
 out:p
structure bp where
 f:FuncId
 Y:Type
 zL:List (AV D.E)->St D.E->C Y
 pre:Y->Prop
 args:Y->List (AV D.E)
 heap:Y->List (Nat×AO D.E)
 res:Y->AV D.E
 jf:Y->List (Nat×AO D.E)
 pA:Nat
 D2:Nat
def rn (r:Ren) (a nx t:Nat):Nat:=Option.rec (motive:=λ_=>Nat) (Nat.add nx (Nat.sub t a)) (λb=>b) (ep r t)
def Cw (f:Nat->Nat) (v:AV D.E):AV D.E:=match v with
 | .ptr b o=>.ptr (f b) o
 | .mY b k i j=>.mY (f b) k i j
 | .own b k n=>.own (f b) k n
 | .pre b k n=>.pre (f b) k n
 | .part b k o n=>.part (f b) k o n
 | .grow c xs b=>.grow c xs (f b)
 | .sub b o n=>.sub (f b) o n
 | .map r=>.map (f r)
 | v=>v
def N' (f:Nat->Nat) (v:AV D.E):AV D.E:=match v with
 | .agg cs=>.agg (ub (Cw D f) cs)
 | .tuple cs=>.tuple (ub (Cw D f) cs)
 | .func g xs a=>.func g (ub (Cw D f) xs) (ub (Cw D f) a)
 | .iface t x=>.iface t (Cw D f x)
 | v=>Cw D f v
def RF (f:Nat->Nat) (v:AV D.E):AV D.E:=match v with
 | .tuple cs=>.tuple (ub (N' D f) cs)
 | v=>N' D f v
def Cx (f:Nat->Nat) (o:AO D.E):AO D.E:=match o with
 | .cells cs e ro=>.cells (ub (N' D f) cs) e ro
 | o=>o
def Zh (v:AV D.E):Bool:=match v with
 | .agg _=>false
 | .tuple _=>false
 | .func _ _ _=>false
 | .iface _ _=>false
 | _=>true
def okV (v:AV D.E):Bool:=match v with
 | .agg cs=>j7 (Zh D) cs
 | .tuple cs=>j7 (Zh D) cs
 | .func _ xs a=>Bool.and (j7 (Zh D) xs) (j7 (Zh D) a)
 | .iface _ x=>Zh D x
 | _=>true
def Qjh (v:AV D.E):Bool:=match v with
 | .tuple cs=>j7 (okV D) cs
 | v=>okV D v
def okO (o:AO D.E):Bool:=match o with
 | .cells cs _ _=>j7 (okV D) cs
 | _=>true
def QfN (r:Ren) (l:List (Nat×AO D.E)):T (AO D.E)->C (T (AO D.E)):=List.rec (motive:=λ_=>T (AO D.E)->C (T (AO D.E))) (λh=>.ret h) (λp _ a h=>aB (dg (ep r p.1)) λb=>aB (dg (h.put b none)) a) l
def inP (f:Nat->Nat) (l:List (Nat×AO D.E)):T (AO D.E)->C (T (AO D.E)):=List.rec (motive:=λ_=>T (AO D.E)->C (T (AO D.E))) (λh=>.ret h) (λp _ a h=>aB (a h) λh=>dg (h.put (f p.1) (some (Cx D f p.2)))) l
def below (n:Nat) (l:List (Nat×AO D.E)):Bool:=j7 (λp=>Nat.ble (Nat.succ p.1) n) l
def RG (k:bp D) (y:k.Y) (args:List (AV D.E)) (s:St D.E):C (AV D.E×St D.E):=.fQ (Iv (k.pre y)) (bB (Bool.and (Bool.and (below D k.pA (k.heap y)) (Nat.ble k.pA k.D2)) (Bool.and (Qjh D (k.res y)) (j7 (λp=>okO D p.2) (k.jf y)))) (aP (RE D s [] (k.heap y) args (k.args y)) λa r=>
 aB (QfN D r (k.heap y) a.h) λb=>aB (inP D (rn r k.pA a.nx) (k.jf y) b) λc=>.ret (RF D (rn r k.pA a.nx) (k.res y),⟨c,Nat.add a.nx (Nat.sub k.D2 k.pA)⟩)))
def RH {α:Type} (x:C α):Bool:=C.rec (motive:=λ_=>Bool) (λ_=>false) true (λ_ _ c=>c) (λ_ _ _ a b=>Bool.and a b) x
def caT (tab:List (bp D)):zK D.E:=λf args s=>List.rec (motive:=λ_=>C (AV D.E×St D.E)) .fail
 (λk _ a=>bE (Nat.beq k.f f) (bE (RH (k.zL args s)) a (aB (k.zL args s) λy=>RG D k y args s)) a) tab
inductive Ex where
 | normal
 | exit (id:Nat)
 | ret
inductive Hint where
 | lock (t:Nat)
 | ZC (t n:Nat)
 | fact (t:Nat)
 | rR (b o n:Nat)
structure ir where
 X:Type
 aS:List Nat
 sl:X->List (Nat×AV D.E)
 kp:List Nat
 pc:X->List (Nat×AO D.E)
 nx:Nat
 inv:X->Prop
 me:X->Nat
structure Qji where
 K:Type
 L:K->ir D
 E:Option (ir D)
structure dj where
 hs:List (Nat×Hint)
 mu:List Nat
 lp:List (Nat×ir D)
 jn:List (Nat×ir D)
 un:Nat
 kf:List (Nat×Qji D)
abbrev Eh:=Ex->St D.E->T (AV D.E)->Prop
def LH (v:AV D.E):Prop:=match v with
 | .int k n=>lf k n
 | .str s=>aM (fo s) 9223372036854775807
 | .list _ xs=>aM (ab xs) 9223372036854775807
 | .grow _ xs _=>aM (ab xs) 9223372036854775807
 | .own _ _ n=>(aM zI n&&aM n 9223372036854775807)
 | _=>True
def RI (l:List (AV D.E)):Prop:=List.rec (motive:=λ_=>Prop) True (λv _ a=>LH D v/\a) l
def LI (v:AV D.E):Prop:=match v with
 | .agg l=>RI D l
 | .tuple l=>RI D l
 | v=>LH D v
def RJ (k:IntKind) (x:Int) (n:Nat):C (AV D.E):=Nat.rec (motive:=λ_=>C (AV D.E)) (ask (aE x zI) (.ret (.num k zI))) (λm a=>.split (aE x (.ofNat (Nat.succ m))) (.ret (.num k (.ofNat (Nat.succ m)))) a) n
def Ei (v:AV D.E) (n:Nat):C (AV D.E):=match v with
 | .int k x=>RJ D k x n
 | v=>.ret v
def LJ (s:St D.E) (v:AV D.E):C (AV D.E×St D.E):=match v with
 | .own b _ _=>aP (sP D ⟨s,[],[]⟩ b) λa m=>.ret (.list a.c a.xs,m.s)
 | .pre b _ n=>aP (sP D ⟨s,[],[]⟩ b) λa m=>.ret (.list a.c (c_ a.xs n),m.s)
 | .part b _ o n=>aP (sP D ⟨s,[],[]⟩ b) λa m=>.ret (.list a.c (sO a.xs o n),m.s)
 | .grow c xs _=>.ret (.list c xs,s)
 | v=>.ret (v,s)
def HU (b o n:Nat) (s:St D.E):C (St D.E):=aB (dg (s.h.get b)) λa=>match a with
 | .cells cs e ro=>aB (dg (ic cs o)) λv=>aB (Ei D v n) λv=>s.set b (some (.cells (dh cs o v) e ro))
 | _=>.fail
def AF (h:Hint) (s:St D.E) (φ:T (AV D.E)):C (St D.E×T (AV D.E)):=match h with
 | .lock t=>aB (dg (φ.get t)) λv=>aP (LJ D s v) λv s=>aB (dg (φ.put t (some v))) λφ=>.ret (s,φ)
 | .ZC t n=>aB (dg (φ.get t)) λv=>aB (Ei D v n) λv=>aB (dg (φ.put t (some v))) λφ=>.ret (s,φ)
 | .fact _=>.ret (s,φ)
 | .rR b o n=>aB (HU D b o n s) λs=>.ret (s,φ)
def Qdw (h:Hint) (φ:T (AV D.E)) (K:Prop):Prop:=match h with
 | .fact t=>Option.rec (motive:=λ_=>Prop) K (λv=>LI D v->K) (φ.get t)
 | _=>K
def pH (l:List (Nat×Hint)) (id:Nat):St D.E->T (AV D.E)->(St D.E->T (AV D.E)->Prop)->Prop:=
 List.rec (motive:=λ_=>St D.E->T (AV D.E)->(St D.E->T (AV D.E)->Prop)->Prop) (λs φ K=>K s φ)
  (λp _ a s φ K=>bif Nat.beq p.1 id then Qdw D p.2 φ ((AF D p.2 s φ).wp λq=>Prod.rec (motive:=λ_=>Prop) (λs φ=>a s φ K) q) else a s φ K) l
def ZD (Q:Eh D) (K:St D.E->T (AV D.E)->Prop):Eh D:=λe s φ=>match e with
 | .normal=>K s φ
 | .exit id=>Q (.exit id) s φ
 | .ret=>Q .ret s φ
def QfO (id:Nat) (Q:Eh D):Eh D:=λe s φ=>match e with
 | .normal=>Q .normal s φ
 | .exit a=>bif Nat.beq a id then Q .normal s φ else Q (.exit a) s φ
 | .ret=>Q .ret s φ
def xn (φ:T (AV D.E)) (l:List Nat):C (List (AV D.E)):=List.rec (motive:=λ_=>C (List (AV D.E))) (.ret []) (λt _ a=>aB (dg (φ.get t)) λv=>aB a λr=>.ret (v::r)) l
def ZE (a:List (AV D.E)) (l:List Nat):T (AV D.E)->C (T (AV D.E)):=
 List.rec (motive:=λ_=>List (AV D.E)->T (AV D.E)->C (T (AV D.E))) (λ_ φ=>.ret φ) (λt _ b a φ=>List.rec (motive:=λ_=>C (T (AV D.E))) .fail (λv a _=>aB (dg (φ.put t (some v))) λφ=>b a φ) a) l a
def N_ (s:St D.E) (l:List Nat):C (List (Nat×AO D.E)):=List.rec (motive:=λ_=>C (List (Nat×AO D.E))) (.ret []) (λt _ a=>aB (dg (s.h.get t)) λv=>aB a λr=>.ret ((t,v)::r)) l
def Oa (l:List (Nat×AO D.E)):T (AO D.E)->C (T (AO D.E)):=List.rec (motive:=λ_=>T (AO D.E)->C (T (AO D.E))) (λh=>.ret h) (λp _ a h=>aB (a h) λh=>dg (h.put p.1 (some p.2))) l
def QfP {α:Type} (l:List (Nat×α)):List Nat:=ub (λp=>p.1) l
def QfQ {α:Type} (l:List (Nat×α)):List α:=ub (λp=>p.2) l
def fixed (base:Nat) (l:List (Nat×AO D.E)):Ren:=List.rec (motive:=λ_=>Ren) [] (λp _ a=>bif Nat.ble (Nat.succ p.1) base then(p.1,p.1)::a else a) l
def vg (base:Nat) (L:ir D) (x:L.X) (a:List (AV D.E)) (kp:List (Nat×AO D.E)) (s:St D.E) (φ:T (AV D.E)):C Unit:=
 aB (xn D φ (oe L.aS (QfP (L.sl x)))) λQz8=>aB (RE D s (fixed D base (oe kp (L.pc x))) (oe kp (L.pc x)) Qz8 (oe a (QfQ (L.sl x)))) λ_=>fv
def LK (base:Nat) (L:ir D) (x:L.X) (a:List (AV D.E)) (kp:List (Nat×AO D.E)):C (St D.E×T (AV D.E)):=
 aB (ZE D a L.aS .nil) λφ=>aB (ZE D (QfQ (L.sl x)) (QfP (L.sl x)) φ) λφ=>aB (Oa D (oe kp (L.pc x)) .nil) λh=>bB (Bool.and (Nat.ble base L.nx) (below D L.nx (oe kp (L.pc x)))) (.ret (⟨h,L.nx⟩,φ))
abbrev Wk:=Nat->St D.E->T (AV D.E)->Eh D->Prop
def AG (base:Nat) (L:ir D) (body:Wk D):Wk D:=λp s φ Q=>
 (aB (xn D φ L.aS) λa=>aB (N_ D s L.kp) λkp=>.ret (a,kp)).wp λq=>Prod.rec (motive:=λ_=>Prop) (λa kp=>
  (∃x:L.X,(vg D base L x a kp s φ).wp λ_=>Iv (L.inv x))/\
  (∀x:L.X,Iv (L.inv x)->(LK D base L x a kp).wp λq=>Prod.rec (motive:=λ_=>Prop) (λs φ=>body (Nat.mul (nat_lit 2) p) s φ λe s φ=>match e with
   | .normal=>∃b:L.X,(vg D base L b a kp s φ).wp λ_=>Iv (L.inv b/\L.me b<L.me x)
   | .exit id=>Q (.exit id) s φ
   | .ret=>Q .ret s φ) q)) q
def RK (base:Nat) (L:ir D) (a:List (AV D.E)) (kp:List (Nat×AO D.E)) (body:Wk D) (p:Nat) (G:Nat->St D.E->T (AV D.E)->Prop) (Q:Eh D):Prop:=∀x:L.X,Iv (L.inv x)->(LK D base L x a kp).wp λq=>Prod.rec (motive:=λ_=>Prop) (λs φ=>body (Nat.mul (nat_lit 2) p) s φ λe s φ=>match e with| .normal=>G (L.me x) s φ| .exit id=>Q (.exit id) s φ| .ret=>Q .ret s φ) q
def xp (base:Nat) (L:ir D) (b:List (AV D.E)) (kp:List (Nat×AO D.E)) (n:Nat) (s:St D.E) (φ:T (AV D.E)):Prop:=∃a:L.X,(vg D base L a b kp s φ).wp λ_=>Iv (L.inv a/\L.me a<n)
def HV (base:Nat) (L b:ir D) (body:Wk D):Wk D:=λp s φ Q=>
 (aB (xn D φ L.aS) λa=>aB (N_ D s L.kp) λkp=>bB (Nat.beq (l7 L.aS) (l7 b.aS)) (.ret (a,kp))).wp λq=>Prod.rec (motive:=λ_=>Prop) (λa kp=>
  (∃x:L.X,(vg D base L x a kp s φ).wp λ_=>Iv (L.inv x))/\
  RK D base L a kp body p (λn s φ=>xp D base L a kp n s φ\/xp D base b a kp n s φ) Q/\RK D base b a kp body p (λn s φ=>xp D base L a kp n s φ\/xp D base b a kp n s φ) Q) q
def AH (base:Nat) (L:ir D) (b c:Wk D):Wk D:=λp s φ Q=>
 (aB (xn D φ L.aS) λa=>aB (N_ D s L.kp) λkp=>.ret (a,kp)).wp λq=>Prod.rec (motive:=λ_=>Prop) (λa kp=>
  b (Nat.mul (nat_lit 2) p) s φ (ZD D Q λs φ=>∃x:L.X,(vg D base L x a kp s φ).wp λ_=>Iv (L.inv x))/\
  (∀x:L.X,Iv (L.inv x)->(LK D base L x a kp).wp λq=>Prod.rec (motive:=λ_=>Prop) (λs φ=>c (Nat.succ (Nat.mul (nat_lit 2) p)) s φ Q) q)) q
def Cy (n:Nat) (body:Wk D):Wk D:=Nat.rec (motive:=λ_=>Wk D) (λ_ _ _ _=>False) (λ_ a p s φ Q=>body (Nat.mul (nat_lit 2) p) s φ λe s φ=>match e with
   | .normal=>a (Nat.add p (nat_lit 18446744073709551616)) s φ Q
   | .exit id=>Q (.exit id) s φ
   | .ret=>Q .ret s φ) n
end
section
variable (P:Program) (D:Data) (cd:TypeId->Option Nat) (ca:zK D.E) (base:Nat) (jE:dj D) (N:Nat)
def ZF (l:List Nat) (n:Nat):Bool:=Cl (λm=>Nat.beq m n) l
def D3 (c:Code):Wk D:=
 Code.rec (motive:=λ_=>Wk D)
  (λ_ s φ Q=>Q .normal s φ)
  (λid ops draw _ s φ Q=>pH D jE.hs id s φ λs φ=>(bif draw then Rz P D cd (ZF jE.mu id) ca ops.toList N s φ else xm P D cd (ZF jE.mu id) ca ops.toList N ops.toList (nat_lit 0) s φ).wp λq=>Prod.rec (motive:=λ_=>Prop) (λs φ=>Q .normal s φ) q)
  (λ_ _ b a p s φ Q=>Option.rec (motive:=λ_=>Prop) (Option.rec (motive:=λ_=>Prop) (b (Nat.mul (nat_lit 2) p) s φ (ZD D Q λs φ=>a (Nat.succ (Nat.mul (nat_lit 2) p)) s φ Q)) (λL=>AH D base L b a p s φ Q) (cM jE.jn p)) (λF=>∃k:F.K,AH D base (F.L k) b a p s φ Q) (cM jE.kf p))
  (λc _ _ b a p s φ Q=>(aB (ev P D φ c) λv=>Ef D v).wp λt=>bif t then b (Nat.mul (nat_lit 2) p) s φ Q else a (Nat.succ (Nat.mul (nat_lit 2) p)) s φ Q)
  (λid _ a p s φ Q=>a (Nat.mul (nat_lit 2) p) s φ (QfO D id Q))
  (λ_ a p s φ Q=>Option.rec (motive:=λ_=>Prop) (Option.rec (motive:=λ_=>Prop) (Cy D jE.un a p s φ Q) (λL=>AG D base L a p s φ Q) (cM jE.lp p)) (λF=>∃k:F.K,Option.rec (motive:=λ_=>Prop) (AG D base (F.L k) a p s φ Q) (λd=>HV D base (F.L k) d a p s φ Q) F.E) (cM jE.kf p))
  (λ_ _ _ _ _ _ _ _ _ _=>False)
  (λid _ s φ Q=>Q (.exit id) s φ)
  (λ_ _ _ _ _ _=>False)
  (λ_ _ s φ Q=>Q .normal s φ)
  (λ_ _ _ _ _=>False)
  (λ_ s φ Q=>Q .ret s φ)
  (λ_ _ _ _ _=>False) c
def RL (s:St D.E) (φ:T (AV D.E)) (r:ResultVar):C (AV D.E):=match r with
 | .tmp t=>dg (φ.get t)
 | .cell a t=>aB (dg (φ.get a)) λv=>Eb P D s t v
def ZG (s:St D.E) (φ:T (AV D.E)) (rs:List ResultVar):C (List (AV D.E)):=
 List.rec (motive:=λ_=>C (List (AV D.E))) (.ret []) (λr _ a=>aB (RL P D s φ r) λv=>aB a λb=>.ret (v::b)) rs
def Cz (v:AV D.E):List (AV D.E):=match v with
 | .tuple a=>a
 | v=>[v]
def xq (b:List (AV D.E)):Nat->T (AV D.E)->C (T (AV D.E)):=
 List.rec (motive:=λ_=>Nat->T (AV D.E)->C (T (AV D.E))) (λ_ φ=>.ret φ) (λv _ a i φ=>aB (dg (φ.put i (some v))) λφ=>a (Nat.succ i) φ) b
def stay (a b:List (Nat×AO D.E)):Ren:=List.rec (motive:=λ_=>Ren) [] (λp _ c=>bif Option.isSome (cM b p.1) then(p.1,p.1)::c else c) a
def named (a b:List (Nat×AO D.E)) (lo hi:Nat):Bool:=j7 (λp=>Bool.or (Option.isSome (cM a p.1)) (Bool.and (Nat.ble lo p.1) (Nat.ble (Nat.succ p.1) hi))) b
def RM (v:AV D.E):Bool:=match v with
 | .tuple a=>Bool.not (Nat.beq (l7 a) (nat_lit 1))
 | _=>true
def QqG (k:bp D) (y:k.Y) (rs:List ResultVar):Eh D:=λe s φ=>match e with
 | .exit _=>False
 | _=>(bB (Bool.and (RM D (k.res y)) (Bool.and (named D (k.heap y) (k.jf y) k.pA k.D2) (Nat.ble k.pA k.D2))) (aB (ZG P D s φ rs) λa=>RE D s (stay D (k.jf y) (k.heap y)) (k.jf y) a (Cz D (k.res y)))).wp λ_=>True
def Qdx (k:bp D) (body:Code) (rs:List ResultVar) (y:k.Y):Prop:=(aB (xq D (k.args y) (nat_lit 0) .nil) λφ=>aB (Oa D (k.heap y) .nil) λh=>.ret (φ,h)).wp λq=>Prod.rec (motive:=λ_=>Prop)
 (λφ h=>D3 P D cd ca k.pA jE N body (nat_lit 1) ⟨h,k.pA⟩ φ (QqG P D k y rs)) q
end
end
end sx
namespace sx
open Go Go.RowKit
section
variable {α β γ:Type}
variable {b:β} {c:Bool} {a:α} {x:C α} {Z Y:Nat} {X:C β} {W:Option α} {V:Option β}
theorem aJ {f:α->Option β}:oB W f=some b↔∃a,W=some a/\f a=some b:=by
 cases W with
 | none=>exact⟨λh=>(nomatch h),λ⟨_,h,_⟩=>(nomatch h)⟩
 | some a=>exact⟨λh=>⟨a,rfl,h⟩,λ⟨_,h,r⟩=>by cases h;exact r⟩
def mh:oI c V=some b↔c/\V=some b:=by
 cases c
 ·exact⟨λh=>(nomatch h),λ⟨h,_⟩=>(nomatch h)⟩
 ·exact⟨λh=>⟨rfl,h⟩,λ⟨_,h⟩=>h⟩
def CA {y:Option β}:oE c V y=some b↔(c/\V=some b)\/(c=false/\y=some b):=by
 cases c
 ·exact⟨λh=>.inr ⟨rfl,h⟩,λh=>by rcases h with⟨h,_⟩ | ⟨_,h⟩;cases h;exact h⟩
 ·exact⟨λh=>.inl ⟨rfl,h⟩,λh=>by rcases h with⟨_,h⟩ | ⟨h,_⟩;exact h;cases h⟩
theorem av {b:α}:(C.ret a).H b↔a=b:=ZbW
theorem cX {p:Prop}:(C.fQ p x).H a↔p/\x.H a:=ZbW
theorem wE {y:C α}:(C.split c x y).H a↔(c/\x.H a)\/(c=false/\y.H a):=ZbW
theorem ak {f:α->C β}:(aB x f).H b↔∃a,x.H a/\(f a).H b:=by
 induction x with
 | ret a=>exact⟨λh=>⟨a,rfl,h⟩,λ⟨_,h,d⟩=>by cases av.1 h;exact d⟩
 | fail=>exact⟨λh=>h.elim,λ⟨_,h,_⟩=>h.elim⟩
 | fQ p x k=>
  show(p/\(aB x f).H b)↔_
  rw[k];exact⟨λ⟨g,a,h1,d⟩=>⟨a,⟨g,h1⟩,d⟩,λ⟨a,⟨g,h1⟩,d⟩=>⟨g,a,h1,d⟩⟩
 | split c x y i j=>
  show((c/\(aB x f).H b)\/(c=false/\(aB y f).H b))↔_
  rw[i,j];constructor
  ·rintro(⟨e,a,h1,d⟩ | ⟨e,a,h1,d⟩)
   ·exact⟨a,.inl ⟨e,h1⟩,d⟩
   ·exact⟨a,.inr ⟨e,h1⟩,d⟩
  ·rintro⟨a,⟨e,h1⟩ | ⟨e,h1⟩,d⟩
   ·exact .inl ⟨e,a,h1,d⟩
   ·exact .inr ⟨e,a,h1,d⟩
theorem bD {x:C (α×β)} {f:α->β->C γ} {r:γ}:(aP x f).H r↔∃a b,x.H (a,b)/\(f a b).H r:=by
 grind [aP,ak]
theorem bH:(bB c X).H b↔c/\X.H b:=by
 cases c
 ·exact⟨λh=>h.elim,λ⟨h,_⟩=>(nomatch h)⟩
 ·exact⟨λh=>⟨rfl,h⟩,λ⟨_,h⟩=>h⟩
theorem iW {y:C β}:(bE c X y).H b↔(c/\X.H b)\/(c=false/\y.H b):=by
 cases c
 ·exact⟨λh=>.inr ⟨rfl,h⟩,λh=>by rcases h with⟨h,_⟩ | ⟨_,h⟩;cases h;exact h⟩
 ·exact⟨λh=>.inl ⟨rfl,h⟩,λh=>by rcases h with⟨_,h⟩ | ⟨h,_⟩;exact h;cases h⟩
theorem bO:(dg W).H a↔W=some a:=by
 cases W with
 | none=>exact⟨λh=>h.elim,λh=>nomatch h⟩
 | some b=>exact⟨λh=>ZaR some (av.1 h),λh=>by cases h;rfl⟩
theorem dv:(ask c X).H b↔c/\X.H b:=ZbW
theorem gK {K:α->Prop} (h:x.wp K):∃a,x.H a/\K a:=by
 induction x with
 | ret a=>exact⟨a,rfl,h⟩
 | fail=>exact h.elim
 | fQ p x k=>obtain⟨j,h⟩:=h;obtain⟨a,h1,b⟩:=k h;exact⟨a,⟨j,h1⟩,b⟩
 | split c x y f g=>
  obtain⟨h1,b⟩:=h;cases i:c with
  | true=>obtain⟨a,d,e⟩:=f (h1 i);exact⟨a,.inl ⟨rfl,d⟩,e⟩
  | false=>obtain⟨a,d,e⟩:=g (b i);exact⟨a,.inr ⟨rfl,d⟩,e⟩
theorem Qjj {b:α} (d:x.H a) (g:x.H b):a=b:=by
 induction x with
 | ret c=>exact(av.1 d).symm.trans (av.1 g)
 | fail=>exact d.elim
 | fQ p x k=>exact k d.2 g.2
 | split c x y h i=>
  rcases d with⟨h1,e⟩ | ⟨h1,e⟩<;>rcases g with⟨j,f⟩ | ⟨j,f⟩
  ·exact h e f
  ·grind
  ·grind
  ·exact i e f
theorem aQ:Nat.beq Z Y↔Z=Y:=⟨ZdO,λh=>h▸ZdY Z⟩
theorem cG:Nat.ble Z Y↔Z<=Y:=Nat.ble_eq▸ZbW
theorem xr:Nat.beq Z Y=false↔Z≠Y:=by
 grind [aQ]
theorem Ej:Nat.ble Z Y=false↔Y<Z:=by
 grind [cG]
end
section
variable {α:Type}
theorem T.get_nil (k:Nat):(T.nil:T α).get k=none:=rfl
def T.nc (v:Option α) (l r:T α):(T.node v l r).get 0=v:=rfl
theorem T.pI (v:Option α) (l r:T α) (k:Nat) (h:k % 2=0):(T.node v l r).get (k+1)=l.get (k / 2):=by
 show Nat.rec (motive:=λ_=>Option α) (l.get (k / 2)) (λ_ _=>r.get (k / 2)) (k % 2)=_
 rw[h];rfl
theorem T.sQ (v:Option α) (l r:T α) (k:Nat) (h:k % 2=1):(T.node v l r).get (k+1)=r.get (k / 2):=by
 show Nat.rec (motive:=λ_=>Option α) (l.get (k / 2)) (λ_ _=>r.get (k / 2)) (k % 2)=_
 rw[h];rfl
theorem T.xt:∀(n k:Nat) (a:Option α) (t:T α),T.mk1 n k a=some t->∀j,t.get j=if j=k then a else none
 | 0,k,a,t,h,j=>nomatch h
 | n+1,0,a,t,h,j=>by
  have b:some (T.node a .nil .nil)=some t:=h;cases b;cases j with
  | zero=>simp[T.nc]
  | succ j=>
   grind [T.pI,T.get_nil,T.sQ]
 | n+1,k+1,a,t,h,j=>by
  have b:Nat.rec (motive:=λ_=>Option (T α)) (oB (T.mk1 n (k / 2) a) λl=>some (.node none l .nil)) (λ_ _=>oB (T.mk1 n (k / 2) a) λr=>some (.node none .nil r)) (k % 2)=some t:=h;rcases Zbq k with e | e
  ·rw[e] at b;obtain⟨l,hl,ht⟩:=aJ.1 b;cases ht;have c:=T.xt n _ _ _ hl;cases j with
   | zero=>simp[T.nc]
   | succ j=>
    grind [T.pI,T.sQ,T.get_nil]
  ·rw[e] at b;obtain⟨l,hl,ht⟩:=aJ.1 b;cases ht;have c:=T.xt n _ _ _ hl;cases j with
   | zero=>simp[T.nc]
   | succ j=>
    grind [T.pI,T.get_nil,T.sQ]
theorem T.eu:∀(t:T α) (k:Nat) (a:Option α) (b:T α),t.put k a=some b->∀j,b.get j=if j=k then a else t.get j
 | .nil,k,a,b,h,j=>by rw[T.xt 64 k a b h j,T.get_nil]
 | .node v l r,0,a,b,h,j=>by
  have c:some (T.node a l r)=some b:=h;cases c;cases j with
  | zero=>simp[T.nc]
  | succ j=>
   rfl
 | .node v l r,k+1,a,b,h,j=>by
  have c:Nat.rec (motive:=λ_=>Option (T α)) (oB (l.put (k / 2) a) λd=>some (.node v d r)) (λ_ _=>oB (r.put (k / 2) a) λg=>some (.node v l g)) (k % 2)=some b:=h;rcases Zbq k with e | e
  ·rw[e] at c;obtain⟨d,hl,ht⟩:=aJ.1 c;cases ht;have f:=T.eu l _ _ _ hl;cases j with
   | zero=>simp[T.nc]
   | succ j=>
    grind [T.pI,T.sQ]
  ·rw[e] at c;obtain⟨d,hl,ht⟩:=aJ.1 c;cases ht;have f:=T.eu r _ _ _ hl;cases j with
   | zero=>simp[T.nc]
   | succ j=>
    grind [T.pI,T.sQ]
end
section
variable {α:Type}
theorem jY (l:List α):l7 l=l.length:=by
 induction l with
 | nil=>rfl
 | cons a l b=>show Nat.succ (l7 l)=_;rw[b];rfl
theorem fD:∀(l:List α) (n:Nat),ic l n=l[n]?
 | [],n=>by rfl
 | a::l,0=>rfl
 | a::l,n+1=>by show ic l n=_;rw[fD l n];simp
theorem fZ:∀(x y:List α),oe x y=x++y
 | [],y=>rfl
 | a::x,y=>by show a::oe x y=_;rw[fZ x y];rfl
theorem qH {β:Type} (f:α->β):∀l:List α,ub f l=l.map f
 | []=>rfl
 | a::l=>by show f a::ub f l=_;rw[qH f l];rfl
theorem nf:∀(n:Nat) (l:List α),o9 n l=l.drop n
 | 0,l=>rfl
 | n+1,[]=>by rfl
 | n+1,a::l=>by show o9 n l=_;rw[nf n l];rfl
theorem jK:∀{n:Nat} {l r:List α},vb n l=some r->n<=l.length/\r=l.take n
 | 0,l,r,h=>by cases(show some []=some r from h);simp
 | n+1,[],r,h=>nomatch (show none=some r from h)
 | n+1,a::l,r,h=>by
  obtain⟨z,hz,b⟩:=aJ.1 (show oB (vb n l) (λz=>some (a::z))=some r from h);cases b;obtain⟨h1,c⟩:=jK hz;grind
theorem ew {f:α->Bool}:∀{l:List α},j7 f l↔∀x∈l,f x
 | []=>by simp[j7]
 | a::l=>by
  show Bool.rec (motive:=λ_=>Bool) false (j7 f l) (f a)↔_
  have:=ew (f:=f) (l:=l);cases h:f a<;>simp[h,this]
theorem xu:∀{a cs r:List α},Lo a cs=some r->a.length<=cs.length/\r.length=cs.length/\∀i,r[i]?=if i<a.length then a[i]? else cs[i]?
 | [],cs,r,h=>by cases(show some cs=some r from h);simp
 | v::a,[],r,h=>nomatch (show none=some r from h)
 | v::a,c::cs,r,h=>by
  obtain⟨z,hz,b⟩:=aJ.1 (show oB (Lo a cs) (λz=>some (v::z))=some r from h);cases b;obtain⟨h1,d,e⟩:=xu hz;grind
theorem jL:∀{n:Nat} {a cs r:List α},D_ n a cs=some r->n+a.length<=cs.length/\r.length=cs.length/\∀i,r[i]?=if n<=i/\i<n+a.length then a[i-n]? else cs[i]?
 | 0,a,cs,r,h=>by
  obtain⟨h1,b,d⟩:=xu (show Lo a cs=some r from h);grind
 | n+1,a,[],r,h=>nomatch (show none=some r from h)
 | n+1,a,c::cs,r,h=>by
  obtain⟨z,hz,e⟩:=aJ.1 (show oB (D_ n a cs) (λz=>some (c::z))=some r from h);cases e;obtain⟨h1,b,d⟩:=jL hz;grind
def AI (n:Nat) (z:List α):N8 (n+1) z=z++N8 n z:=fZ _ _
end
theorem mK {a b:Bool} (h:Bool.and a b):a/\b:=by grind
theorem or2 {a b:Bool} (h:Bool.or a b):a\/b:=by grind
structure MI where
 cg:Nat
 sh:Nat
 rS:Nat
 jM:Nat
 len:Nat
 real:Bool
structure Pm (D:Data) where
 pl:Nat->Option MI
 sg:Nat->Nat->Option (AV D.E)
def cN {D:Data} (M:Pm D) (b o c:Nat) (xs:List (D.E c)):Prop:=∀(i:Nat) (hi:i<xs.length) (j:Nat) (v:AV D.E),(D.bm c xs[i])[j]?=some v->M.sg b (o+i*D.size c+j)=some v
inductive VR {D:Data} (M:Pm D):AV D.E->Value->Prop
 | bool (b:Bool):VR M (.bool b) (.bool b)
 | lit (b:Bool):VR M (.lit b) (.bool b)
 | int {k:IntKind} {n:Int} (h:lf k n=true):VR M (.int k n) (.int k n)
 | num {k:IntKind} {n:Int} (h:lf k n=true):VR M (.num k n) (.int k n)
 | str {s:List UInt8} (h:s.length<=9223372036854775807):VR M (.str s) (.string ⟨⟨s⟩⟩)
 | fY:VR M .fY (.pointer none)
 | ptr {b o:Nat} {mi:MI} (h:M.pl b=some mi) (hr:mi.real=true):VR M (.ptr b o) (.pointer (some ⟨mi.cg,mi.sh+o,none⟩))
 | lg (g o:Nat):VR M (.lg g o) (.pointer (some ⟨g,o,none⟩))
 | mY {b k i j:Nat} {mi:MI} (h:M.pl b=some mi) (hr:mi.real=true) (hk:mi.jM=k) (hi:i<mi.len):VR M (.mY b k i j) (.pointer (some ⟨mi.cg,mi.sh+i*k+j,none⟩))
 | og {c:Nat} {x:D.E c} {b o j:Nat} (h:∀(i:Nat) (v:AV D.E),(D.bm c x)[i]?=some v->M.sg b (o+i)=some v):VR M (.og c x j) (.pointer (some ⟨b,o+j,none⟩))
 | dc:VR M .dc (.slice none 0 0)
 | own {b k cap:Nat} {n:Int} {mi:MI} (h:M.pl b=some mi) (hk:mi.jM=k) (hr:mi.real=true) (hn:n=mi.len) (hm:mi.len<=9223372036854775807) (hc:mi.len<=cap) (ht:mi.sh+cap*mi.jM=mi.rS):VR M (.own b k n) (.slice (some ⟨mi.cg,mi.sh,none⟩) mi.len cap)
 | mM {b k:Nat} {n:Int} {mi:MI} (h:M.pl b=some mi) (hk:mi.jM=k) (hr:mi.real=false) (hn:n=0) (hl:mi.len=0):VR M (.own b k n) (.slice none 0 0)
 | pre {b k l cap:Nat} {n:Int} {mi:MI} (h:M.pl b=some mi) (hk:mi.jM=k) (hr:mi.real=true) (hn:n=l) (hm:mi.len<=9223372036854775807) (hl:l<=mi.len) (hc:mi.len<=cap) (ht:mi.sh+cap*mi.jM=mi.rS):VR M (.pre b k n) (.slice (some ⟨mi.cg,mi.sh,none⟩) l cap)
 | pJ {b k:Nat} {n:Int} {mi:MI} (h:M.pl b=some mi) (hk:mi.jM=k) (hr:mi.real=false) (hn:n=0) (hl:mi.len=0):VR M (.pre b k n) (.slice none 0 0)
 | part {b k l cap:Nat} {o n:Int} {mi:MI} (h:M.pl b=some mi) (hk:mi.jM=k) (hr:mi.real=true) (hn:n=l) (ho:0<=o) (hl:o.toNat+l<=mi.len) (hm:mi.len<=9223372036854775807) (hc:l<=cap):VR M (.part b k o n) (.slice (some ⟨mi.cg,mi.sh+o.toNat*mi.jM,none⟩) l cap)
 | j8 {b k c:Nat} {o n:Int} {mi:MI} {a:Option Addr} (h:M.pl b=some mi) (hk:mi.jM=k) (hn:n=0) (ho:0<=o):VR M (.part b k o n) (.slice a 0 c)
 | grow {c b cap:Nat} {xs:List (D.E c)} {mi:MI} (h:M.pl b=some mi) (hr:mi.real=true) (hl:mi.len=xs.length) (hz:mi.jM=D.size c) (hs:cN M mi.cg mi.sh c xs) (hm:xs.length<=9223372036854775807) (hc:xs.length<=cap) (ht:mi.sh+cap*mi.jM=mi.rS):
   VR M (.grow c xs b) (.slice (some ⟨mi.cg,mi.sh,none⟩) xs.length cap)
 | kF {c b:Nat} {mi:MI} (h:M.pl b=some mi) (hr:mi.real=false):VR M (.grow c [] b) (.slice none 0 0)
 | sub {b o n cap:Nat} {mi:MI} (h:M.pl b=some mi) (hr:mi.real=true) (hc:n<=cap) (hm:n<=9223372036854775807):VR M (.sub b o n) (.slice (some ⟨mi.cg,mi.sh+o,none⟩) n cap)
 | pK {b o cap:Nat} {a:Addr}:VR M (.sub b o 0) (.slice (some a) 0 cap)
 | list {c b o cap:Nat} {xs:List (D.E c)} (hs:cN M b o c xs) (hm:xs.length<=9223372036854775807) (hc:xs.length<=cap):VR M (.list c xs) (.slice (some ⟨b,o,none⟩) xs.length cap)
 | fw {c cap:Nat} {a:Option Addr}:VR M (.list c []) (.slice a 0 cap)
 | rD:VR M .rD (.map none)
 | map {r:Nat} {mi:MI} (h:M.pl r=some mi):VR M (.map r) (.map (some mi.cg))
 | nilFunc:VR M .nilFunc .nilFunc
 | nilIface:VR M .nilIface .nilIface
 | iface (t:TypeId) {v:AV D.E} {v':Value} (h:VR M v v'):VR M (.iface t v) (.iface t v')
 | agg {c:List (AV D.E)} {c':Array Value} (hl:c.length=c'.toList.length) (h:∀(i:Nat) (v:AV D.E) (v':Value),c[i]?=some v->c'.toList[i]?=some v'->VR M v v'):VR M (.agg c) (.agg c')
 | tuple {c:List (AV D.E)} {c':Array Value} (hl:c.length=c'.toList.length) (h:∀(i:Nat) (v:AV D.E) (v':Value),c[i]?=some v->c'.toList[i]?=some v'->VR M v v'):VR M (.tuple c) (.tuple c')
 | func (fn:Fn) {f c:List (AV D.E)} {f' c':Array Value} (hl:f.length=f'.toList.length) (h:∀(i:Nat) (v:AV D.E) (v':Value),f[i]?=some v->f'.toList[i]?=some v'->VR M v v')
   (hl2:c.length=c'.toList.length) (h2:∀(i:Nat) (v:AV D.E) (v':Value),c[i]?=some v->c'.toList[i]?=some v'->VR M v v'):VR M (.func fn f c) (.func fn f' c')
section
variable {D:Data} {M M':Pm D}
variable {c:List Value} {l:List (AV D.E)} {v:AV D.E} {p:Value}
variable {b:List Value}
def LR (M:Pm D) (l:List (AV D.E)) (a:List Value):Prop:=l.length=a.length/\∀(i:Nat) (v:AV D.E) (b:Value),l[i]?=some v->a[i]?=some b->VR M v b
def HW (M a:Pm D):Prop:=∀b o v,M.sg b o=some v->a.sg b o=some v
def Le (M a:Pm D):Prop:=(∀b c,M.pl b=some c->a.pl b=some c)/\HW M a
theorem Le.refl (M:Pm D):Le M M:=⟨λ_ _ h=>h,λ_ _ _ h=>h⟩
def cN.mono (a:HW M M') {b o c:Nat} {xs:List (D.E c)} (h:cN M b o c xs):cN M' b o c xs:=λi hi j v e=>a _ _ _ (h i hi j v e)
theorem VR.mono (c:Le M M') (h:VR M v p):VR M' v p:=by
 induction h with
 | bool b=>exact .bool b
 | lit b=>exact .lit b
 | int h=>exact .int h
 | num h=>exact .num h
 | str h=>exact .str h
 | fY=>exact .fY
 | ptr h a=>exact .ptr (c.1 _ _ h) a
 | lg g o=>exact .lg g o
 | mY h a hk hi=>exact .mY (c.1 _ _ h) a hk hi
 | og h=>exact .og λi v e=>c.2 _ _ _ (h i v e)
 | dc=>exact .dc
 | own h hk a j f d ht=>exact .own (c.1 _ _ h) hk a j f d ht
 | mM h hk a j hl=>exact .mM (c.1 _ _ h) hk a j hl
 | pre h hk a j f hl d ht=>exact .pre (c.1 _ _ h) hk a j f hl d ht
 | pJ h hk a j hl=>exact .pJ (c.1 _ _ h) hk a j hl
 | part h hk a j m hl f d=>exact .part (c.1 _ _ h) hk a j m hl f d
 | j8 h hk j m=>exact .j8 (c.1 _ _ h) hk j m
 | grow h a hl hz hs f d ht=>exact .grow (c.1 _ _ h) a hl hz (hs.mono c.2) f d ht
 | kF h a=>exact .kF (c.1 _ _ h) a
 | sub h a d f=>exact .sub (c.1 _ _ h) a d f
 | pK=>exact .pK
 | list hs f d=>exact .list (hs.mono c.2) f d
 | fw=>exact .fw
 | rD=>exact .rD
 | map h=>exact .map (c.1 _ _ h)
 | nilFunc=>exact .nilFunc
 | nilIface=>exact .nilIface
 | iface t _ k=>exact .iface t k
 | agg hl _ k=>exact .agg hl k
 | tuple hl _ k=>exact .tuple hl k
 | func fn hl _ l _ k n=>exact .func fn hl k l n
def LR.mono (d:Le M M') (h:LR M l c):LR M' l c:=⟨h.1,λi v e a b=>(h.2 i v e a b).mono d⟩
theorem LR.nil:LR M [] []:=⟨rfl,λi v a h=>by simp at h⟩
def LR.cons (h:VR M v p) (hl:LR M l c):LR M (v::l) (p::c):=
 ⟨by simp[hl.1],λi u e a b=>by
  cases i with
  | zero=>simp at a b;subst a;subst b;exact h
  | succ i=>exact hl.2 i u e (by simpa using a) (by assumption)⟩
theorem LR.bJ (h:LR M (v::l) c):∃d r,c=d::r/\VR M v d/\LR M l r:=by
 have⟨hl,e⟩:=h;cases c with
 | nil=>simp at hl
 | cons d r=>exact⟨d,r,rfl,e 0 v d rfl rfl,by grind,λi u f a b=>e (i+1) u f (by simpa using a) (by simpa using b)⟩
def LR.mj (h:LR M [] c):c=[]:=Zap h.1.symm
def LR.get (h:LR M l c) {i:Nat} (b:l[i]?=some v):∃a,c[i]?=some a/\VR M v a:=by
 have hi:i<c.length:=by rw[<-h.1];exact(Zam.1 b).1
 exact⟨_,Zaf hi,h.2 i v _ b (Zaf hi)⟩
def LR.app {f:List (AV D.E)} (h:LR M l c) (k:LR M f b):LR M (l++f) (c++b):=by
 refine⟨by simp[h.1,k.1],λi v g e d=>?_⟩;by_cases hi:i<l.length
 ·rw[Zat hi] at e;rw[Zat (by rw[<-h.1];exact hi)] at d;exact h.2 i v g e d
 ·rw[Zaz ω] at e;rw[Zaz (by rw[<-h.1];omega),<-h.1] at d;exact k.2 _ v g e d
theorem LR.drop (h:LR M l b) (n:Nat):LR M (l.drop n) (b.drop n):=
 ⟨by simp[h.1],λi v c e d=>h.2 (n+i) v c (by grind) (by grind)⟩
def LR.take (h:LR M l c) (n:Nat):LR M (l.take n) (c.take n):=
 ⟨by simp[h.1],λi v d e b=>by
  rw[Za7] at e b;split at e
  ·rename_i hi;rw[Zac hi] at b;exact h.2 i v d e b
  ·cases e⟩
def VR.Ek (h:LR M l c):VR M (.agg l) (.agg ⟨c⟩):=.agg h.1 h.2
def VR.Em (h:LR M l c):VR M (.tuple l) (.tuple ⟨c⟩):=.tuple h.1 h.2
def VR.undef:VR M (sx.undef:AV D.E) Go.undef:=.tuple rfl (λi v a h=>by cases h)
theorem fG (h:VR M v p):LR M (dr v) p.cells.toList:=by
 have hs:∀(u:AV D.E) (a:Value),VR M u a->LR M [u] [a]:=λu a k=>.cons k .nil
 cases h
 case agg hl h=>exact⟨hl,h⟩
 all_goals (exact hs _ _ (by constructor<;>assumption))
def QfR (h:VR M v p) (h1:one v):p.oneCell':=by
 cases h<;>first | rfl | cases h1
theorem uh (h:LR M l c) (h1:j7 one l):∀v∈c,v.oneCell':=by
 intro d b;have⟨i,hi⟩:=List.mem_iff_getElem?.1 b;have a:i<l.length:=by rw[h.1];exact(Zam.1 hi).1
 exact QfR (h.2 i _ d (Zaf a) hi) (ew.1 h1 _ (Zas a))
def nh (v:AV D.E):Bool:=match v with
 | .bool _=>true | .lit _=>true | .int _ _=>true | .num _ _=>true | .str _=>true | .fY=>true | .lg _ _=>true | .og _ _ _=>true | .dc=>true | .list _ _=>true | .rD=>true | .nilFunc=>true | .nilIface=>true
 | .func _ f c=>f.isEmpty&&c.isEmpty
 | _=>false
theorem VR.pure {v':Value} (h:VR M v v') (d:nh v) (j:HW M M'):VR M' v v':=by
 cases h<;>first | (cases d;done) | skip
 case bool b=>exact .bool b
 case lit b=>exact .lit b
 case int h=>exact .int h
 case num h=>exact .num h
 case str h=>exact .str h
 case fY=>exact .fY
 case lg g o=>exact .lg g o
 case og h=>exact .og λi v e=>j _ _ _ (h i v e)
 case dc=>exact .dc
 case list hs l k=>exact .list (hs.mono j) l k
 case fw=>exact .fw
 case rD=>exact .rD
 case nilFunc=>exact .nilFunc
 case nilIface=>exact .nilIface
 case func fn f c n m hl h a p=>
  simp only[nh,ZaW,List.isEmpty_iff] at d;obtain⟨rfl,rfl⟩:=d;exact .func fn hl (λi v v' e=>by simp at e) a (λi v v' e=>by simp at e)
end
structure bb (D:Data):Prop where
 len:∀c x,(D.bm c x).length=D.size c
 one:∀c x,∀v∈D.bm c x,one v=true/\nh v=true
 dec:∀c row x,D.dec c row=some x->row.length=D.size c/\∀(j:Nat) (a a':AV D.E),row[j]?=some a->(D.bm c x)[j]?=some a'->∀(M:Pm D) (v:Value),VR M a v->VR M a' v
 b1:D.size D.bc=1
 bl:∀xs,(D.zJ xs).length=xs.length
 be:∀(xs:List (D.E D.bc)) (i:Nat) (h:i<xs.length),D.bm D.bc xs[i]=[.int .u8 ((D.zJ xs)[i]'(by rw[bl];exact h)).toNat]
 bo:∀l,D.zJ (D.ofB l)=l
section
variable {D:Data}
variable {M:Pm D} {c:MI} {w:World} {o:AO D.E}
def aX (c:Nat) (xs:List (D.E c)):List (AV D.E):=xs.flatMap (D.bm c)
def QR (M:Pm D) (a:MI) (w:World) (cs:List (AV D.E)) (e:TypeId) (ro:Bool):Prop:=∃C b,w.heap[a.cg]?=some (.cells C e b)/\C.size=a.rS/\a.sh+cs.length<=a.rS/\
 (∀(i:Nat) (v:AV D.E),cs[i]?=some v->∃c,C[a.sh+i]?=some c/\VR M v c)/\(ro=false->b.1=b.2\/a.rS<=b.1/\a.jM=1)
def OR (M:Pm D) (o:AO D.E) (a:MI) (w:World):Prop:=match o with
 | .cells cs e ro=>(a.real/\a.sh=0/\a.rS=cs.length)/\QR M a w cs e ro
 | .arr c xs e ro=>a.len=xs.length/\a.jM=D.size c/\(a.real->QR M a w (aX c xs) e ro)
 | .tok c e=>a.jM=D.size c/\(a.real->∃C b,w.heap[a.cg]?=some (.cells C e b)/\C.size=a.rS/\a.sh+a.len*a.jM<=a.rS/\(b.1=b.2\/a.rS<=b.1/\a.jM=1))
def AO.wr {E:Nat->Type} (o:AO E):Bool:=match o with
 | .cells _ _ ro=>!ro
 | .arr _ _ _ ro=>!ro
 | .tok _ _=>true
def AO.ui {E:Nat->Type} (o:AO E) (a:MI) (j:Nat):Prop:=match o with
 | .tok _ _=>a.sh+a.len*a.jM<=j
 | _=>True
def QR.mono {d:Pm D} (n:Le M d) {cs:List (AV D.E)} {e:TypeId} {ro:Bool} {f:World} (hw:f.heap[c.cg]?=w.heap[c.cg]?) (h:QR M c w cs e ro):QR d c f cs e ro:=by
 have⟨C,g,h1,j,k,l,m⟩:=h;exact⟨C,g,hw.trans h1,j,k,λi v e=>let ⟨o,a,b⟩:=l i v e;⟨o,a,b.mono n⟩,m⟩
theorem OR.mono {d:Pm D} (f:Le M d) {g:World} (hw:c.real->g.heap[c.cg]?=w.heap[c.cg]?) (h:OR M o c w):OR d o c g:=by
 cases o with
 | cells cs e ro=>exact⟨h.1,h.2.mono f (hw h.1.1)⟩
 | arr b xs e ro=>exact⟨h.1,h.2.1,λa=>(h.2.2 a).mono f (hw a)⟩
 | tok b e=>exact⟨h.1,λa=>let ⟨C,i,h1,j⟩:=h.2 a;⟨C,i,(hw a).trans h1,j⟩⟩
theorem OR.lt (h:OR M o c w) (d:c.real):c.cg<w.heap.size:=by
 have:∃x,w.heap[c.cg]?=some x:=by
  cases o with
  | cells cs e ro=>have⟨_,C,b,h1,_⟩:=h;exact⟨_,h1⟩
  | arr a xs e ro=>have⟨C,b,h1,_⟩:=h.2.2 d;exact⟨_,h1⟩
  | tok a e=>have⟨C,b,h1,_⟩:=h.2 d;exact⟨_,h1⟩
 grind
abbrev Hp (D:Data):=Nat->Option (AO D.E)
structure eP (M:Pm D) (H:Hp D) (w:World):Prop where
 obj:∀b o,H b=some o->∃mi,M.pl b=some mi/\OR M o mi w
 inj:∀b b' o o' mi QT,H b=some o->H b'=some o'->M.pl b=some mi->M.pl b'=some QT->mi.real=true->QT.real=true->mi.cg=QT.cg->b=b'
 ia:∀b o v,M.sg b o=some v->nh v=true/\∃v',w.cell? ⟨b,o,none⟩=some v'/\VR M v v'
 sep:∀b o mi,H b=some o->o.wr=true->M.pl b=some mi->mi.real=true->∀j,o.ui mi j->M.sg mi.cg j=none
 LL:∀b c xs e mi,H b=some (.arr c xs e true)->M.pl b=some mi->mi.real=true->cN M mi.cg mi.sh c xs
 mZ:(D.ng<=w.heap.size/\D.gw w)/\∀b o mi,H b=some o->o.wr=true->M.pl b=some mi->mi.real=true->D.ng<=mi.cg
def cn (M:Pm D) (lo hi:Nat):Prop:=∀b,lo<=b->b<hi->M.pl b=none
def Ob (H:Hp D) (M:Pm D) (c:Nat):Prop:=∃b o a,H b=some o/\o.wr/\M.pl b=some a/\a.real/\a.cg=c
structure dq (H:Hp D) (M:Pm D) (w:World) (H':Hp D) (M':Pm D) (w':World) (lo hi:Nat):Prop where
 gv:eP M' H' w'
 ext:∀b,¬(lo<=b/\b<hi)->M'.pl b=M.pl b
 LM:HW M M'
 ml:∀b o,M'.sg b o≠none->M.sg b o≠none\/w.heap.size<=b\/Ob H M b
 size:w.heap.size<=w'.heap.size
 aS:∀c,c<w.heap.size->¬Ob H M c->w'.heap[c]?=w.heap[c]?
 born:∀b o mi,H' b=some o->M'.pl b=some mi->mi.real=true->w.heap.size<=mi.cg\/∃b0 o0 sG,H b0=some o0/\M.pl b0=some sG/\sG.real=true/\sG.cg=mi.cg/\(o.wr=true->o0.wr=true)
 Oc:∀b,H' b≠none->H b≠none\/(lo<=b/\b<hi)
 os:w'.os=w.os
 tape:w'.tape=w.tape
 output:w'.output=w.output
 le:lo<=hi
section
variable {H H' H'':Hp D} {M M' M'':Pm D} {w w' w'':World} {lo mid hi:Nat}
variable {b o:Nat}
def dq.Le (h:dq H M w H' M' w' lo hi) (d:cn M lo hi):sx.Le M M':=⟨λb e a=>by
 rw[h.ext b (λc=>by rw[d b c.1 c.2] at a;cases a)];exact a,h.LM⟩
theorem dq.refl (h:eP M H w) (lo:Nat):dq H M w H M w lo lo:=
 ⟨h,λ_ _=>rfl,λ_ _ _ h=>h,λ_ _ h=>.inl h,Zah _,λ_ _ _=>rfl,λb o e a c d=>.inr ⟨b,o,e,a,c,d,rfl,id⟩,λf a=>.inl a,rfl,rfl,rfl,Zah _⟩
def dq.wrt (h:dq H M w H' M' w' lo hi) (j:Ob H' M' b):w.heap.size<=b\/Ob H M b:=by
 obtain⟨c,o,p,i,m,l,n,rfl⟩:=j;rcases h.born c o p i l n with hs | ⟨g,q,f,a,d,e,k,hw⟩
 ·omega
 ·exact .inr ⟨g,q,f,a,hw m,d,e,k⟩
theorem dq.trans (h:dq H M w H' M' w' lo mid) (k:dq H' M' w' H'' M'' w'' mid hi):dq H M w H'' M'' w'' lo hi:=by
 have h1:=h.le;have m:=k.le;refine⟨k.gv,λb d=>?_,λb o v e=>k.LM _ _ _ (h.LM _ _ _ e),λb o d=>?_,Zav h.size k.size,λc l s=>?_,λb o y d q t=>?_,λb d=>?_,k.os.trans h.os,k.tape.trans h.tape,k.output.trans h.output,Zav h1 m⟩
 ·rw[k.ext b ω,h.ext b ω]
 ·rcases k.ml b o d with a | a | a
  ·exact h.ml b o a
  ·exact .inr (.inl (Zav h.size a))
  ·exact .inr (h.wrt a)
 ·rw[k.aS c (ZbB l h.size) λhw=>?_,h.aS c l s];rcases h.wrt hw with a | a
  ·omega
  ·grind
 ·rcases k.born b o y d q t with hs | ⟨b1,o1,j,l8,g,i,p,x⟩
  ·exact .inl (Zav h.size hs)
  ·rcases h.born b1 o1 j l8 g i with hs | ⟨A,C,z,n,r,u,B,hw⟩
   ·omega
   ·grind
 ·rcases k.Oc b d with l8 | l8
  ·rcases h.Oc b l8 with f | f
   ·grind
   ·omega
  ·omega
theorem dq.frame {K z:Hp D} (h:dq K M w z M' w' lo hi) (r:eP M H w) (Z:cn M lo hi) (O:∀b o,K b=some o->H b=some o) (N:∀b,H' b=if K b=none/\z b=none then H b else z b):
  dq H M w H' M' w' lo hi:=by
 have k:=h.Le Z;have P:∀b o,H b=some o->∃a,M.pl b=some a:=λb o d=>let ⟨a,g,_⟩:=r.obj b o d;⟨a,g⟩
 have Q:∀c,Ob K M c->Ob H M c:=λc ⟨b,o,a,d,Y⟩=>⟨b,o,a,O _ _ d,Y⟩
 have p:∀b o,H' b=some o->(z b=some o)\/(K b=none/\z b=none/\H b=some o):=by
  grind
 have S:∀b o a,H b=some o->K b=none->M.pl b=some a->a.real->¬Ob K M a.cg:=by
  rintro b o a d hk g l ⟨n,u,i,s,_,m,q,e⟩;have:=r.inj n b u o i a (O _ _ s) d m g q l e;grind
 have hold:∀b o a,H b=some o->K b=none->M.pl b=some a->a.real->w'.heap[a.cg]?=w.heap[a.cg]?:=by
  intro b o a d hk g l;have⟨i,m,x⟩:=r.obj b o d;rw[g] at m;cases m;exact h.aS _ (x.lt l) (S b o a d hk g l)
 refine⟨⟨λb o d=>?_,λb n o u a i d s g m l q L=>?_,h.gv.ia,λb o a d x g l j V=>?_,λb c xs e a d g l=>?_,h.gv.mZ.1,λb o a d x g l=>?_⟩,h.ext,h.LM,λb o d=>?_,h.size,λc R hn=>?_,λb o a d g l=>?_,λb d=>?_,h.os,h.tape,h.output,h.le⟩
 ·rcases p b o d with hk | ⟨hk,_,d⟩
  ·exact h.gv.obj b o hk
  ·have⟨a,g,x⟩:=r.obj b o d;exact⟨a,k.1 _ _ g,x.mono k (hold b o a d hk g)⟩
 ·have W:∀b n o u a i,z b=some o->(K n=none/\z n=none/\H n=some u)->M'.pl b=some a->M'.pl n=some i->a.real->i.real->a.cg=i.cg->b=n:=by
   intro b n o u a i hk ⟨hk1,hk2,s⟩ g m l q L;have⟨t,f,A⟩:=r.obj n u s;have:=k.1 _ _ f;rw[m] at this;cases this;rcases h.born b o a hk g l with hs | ⟨T,X,J,C,F,I,E,_⟩
   ·have:=A.lt q;omega
   ·have e2:=r.inj T n X u J i (O _ _ C) s F f I q (E.trans L);grind
  rcases p b o d with hk | hk<;>rcases p n u s with y | y
  ·exact h.gv.inj b n o u a i hk y g m l q L
  ·grind
  ·grind
  ·have⟨t,f,_⟩:=r.obj b o hk.2.2;have⟨mi3,G,_⟩:=r.obj n u y.2.2;have e2:=k.1 _ _ f;have U:=k.1 _ _ G;rw[g] at e2;rw[m] at U;cases e2;cases U;exact r.inj b n o u a i hk.2.2 y.2.2 f G l q L
 ·rcases p b o d with hk | ⟨hk,_,d⟩
  ·exact h.gv.sep b o a hk x g l j V
  ·have⟨t,f,A⟩:=r.obj b o d;have e2:=k.1 _ _ f;rw[g] at e2;cases e2;cases hs:M'.sg a.cg j with
   | none=>rfl
   | some v=>
    exfalso;rcases h.ml a.cg j (by grind) with B | B | B
    ·exact B (r.sep b o a d x f l j V)
    ·have:=A.lt l;omega
    ·grind
 ·rcases p b _ d with hk | ⟨hk,_,d⟩
  ·exact h.gv.LL b c xs e a hk g l
  ·have⟨t,f⟩:=P b _ d;have e2:=k.1 _ _ f;rw[g] at e2;cases e2;exact(r.LL b c xs e a d f l).mono k.2
 ·rcases p b o d with hk | ⟨hk,_,d⟩
  ·exact h.gv.mZ.2 b o a hk x g l
  ·have⟨t,f⟩:=P b o d;have e2:=k.1 _ _ f;rw[g] at e2;cases e2;exact r.mZ.2 b o a d x f l
 ·rcases h.ml b o d with B | B | B
  ·grind
  ·omega
  ·grind
 ·exact h.aS c R λhw=>hn (Q _ hw)
 ·rcases p b o d with hk | ⟨hk,_,d⟩
  ·rcases h.born b o a hk g l with hs | ⟨T,X,J,C,F,I,E,hw⟩
   ·omega
   ·grind
  ·have⟨t,f⟩:=P b o d;have e2:=k.1 _ _ f;grind
 ·rw[N b] at d;by_cases R:K b=none/\z b=none
  ·grind
  ·rw[Zaa R] at d;rcases h.Oc b d with hk | hk
   ·have⟨o,x⟩:=Zbs.1 hk;grind
   ·omega
theorem gL {w a:World} (h:a.heap[b]?=w.heap[b]?):a.cell? ⟨b,o,none⟩=w.cell? ⟨b,o,none⟩:=by
 grind [World.cell?]
theorem eP.slt (a:eP M H w) {v:AV D.E} (h:M.sg b o=some v):b<w.heap.size:=by
 have⟨_,d,c,_⟩:=a.ia b o v h;grind [World.cell?]
def dq.world (a:eP M H w) (h1:w.heap.size<=w'.heap.size) (g:∀c,c<w.heap.size->w'.heap[c]?=w.heap[c]?) (m:w'.os=w.os) (n:w'.tape=w.tape) (p:w'.output=w.output) (lo:Nat):dq H M w H M w' lo lo:=
 ⟨⟨λb o d=>let ⟨k,i,l⟩:=a.obj b o d;⟨k,i,l.mono (.refl M) λj=>g _ (l.lt j)⟩,a.inj,λb o v e=>let ⟨q,s,f,r⟩:=a.ia b o v e;⟨q,s,(gL (g _ (a.slt e))).trans f,r⟩,a.sep,a.LL,⟨Zav a.mZ.1.1 h1,D.gst _ _ (λc f=>g c (ZbB f a.mZ.1.1)) a.mZ.1.2⟩,a.mZ.2⟩,
  λ_ _=>rfl,λ_ _ _ h=>h,λ_ _ h=>.inl h,h1,λc f _=>g c f,λb o k d i j=>.inr ⟨b,o,k,d,i,j,rfl,id⟩,λt d=>.inl d,m,n,p,Zah _⟩
def dq.wF (a:eP M H w) (lo:Nat):dq H M w H M w.drew lo lo:=.world (w':=w.drew) a (Zah _) (λ_ _=>rfl) rfl rfl rfl lo
def jF (H:Hp D) (b:Nat) (o:Option (AO D.E)):Hp D:=λc=>if c=b then o else H c
def Pm.add (M:Pm D) (b:Nat) (mi:MI):Pm D:=⟨λc=>if c=b then some mi else M.pl c,M.sg⟩
def Pm.rY {mi:MI} (d:M.pl b=none):sx.Le M (M.add b mi):=⟨λc m a=>by
 show(if c=b then some mi else M.pl c)=some m
 by_cases e:c=b
 ·subst e;rw[d] at a;cases a
 ·rw[Zaa e];exact a,λ_ _ _ h=>h⟩
theorem dq.oh (a:eP M H w) (C:M.pl lo=none) (o:AO D.E) (mi:MI) (t:mi.real->mi.cg=w.heap.size) (dF:w.heap.size<=w'.heap.size) (hblk:∀c,c<w.heap.size->w'.heap[c]?=w.heap[c]?)
  (x:w'.os=w.os) (y:w'.tape=w.tape) (z:w'.output=w.output) (I:OR (M.add lo mi) o mi w')
  (L:∀c xs e,o=.arr c xs e true->mi.real->cN (M.add lo mi) mi.cg mi.sh c xs:=by intro _ _ _ h;cases h):
  dq H M w (jF H lo (some o)) (M.add lo mi) w' lo (lo+1):=by
 have f:sx.Le M (M.add lo mi):=Pm.rY C;have k:∀m,(M.add lo mi).pl lo=some m->m=mi:=λm h=>by grind [Pm.add]
 have hold:∀b m,b≠lo->(M.add lo mi).pl b=some m->M.pl b=some m:=λb m e h=>by grind [Pm.add]
 refine⟨⟨λb i h=>?_,λb r o1 O m1 m2 h1 s u e2 P Q B=>?_,λb i v e=>?_,λb i m h hw e d j F=>?_,λb c xs e m h n d=>?_,⟨Zav a.mZ.1.1 dF,D.gst _ _ (λc l=>hblk c (ZbB l a.mZ.1.1)) a.mZ.1.2⟩,λb i m h hw e d=>?_⟩,λb A=>?_,f.2,λb i h=>.inl h,dF,λc l _=>hblk c l,λb i m h e d=>?_,λb h=>?_,x,y,z,ZcR _⟩
 ·by_cases e:b=lo
  ·subst e;simp only[jF] at h;cases h;exact⟨mi,by simp[Pm.add],I⟩
  ·simp only[jF,Zaa e] at h;have⟨m,n,g⟩:=a.obj b i h;exact⟨m,f.1 _ _ n,g.mono f λd=>hblk _ (g.lt d)⟩
 ·have G:∀b o m,b≠lo->H b=some o->M.pl b=some m->m.real->mi.real->m.cg≠mi.cg:=λb o m e h n d K=>by
   have⟨S,p,g⟩:=a.obj b o h;rw[n] at p;cases p;have:=g.lt d;grind
  by_cases e:b=lo<;>by_cases q:r=lo
  ·rw[e,q]
  ·grind [jF]
  ·grind [jF]
  ·simp only[jF,Zaa e,Zaa q] at h1 s;exact a.inj b r o1 O m1 m2 h1 s (hold _ _ e u) (hold _ _ q e2) P Q B
 ·have⟨J,R,l,N⟩:=a.ia b i v e;exact⟨J,R,(gL (hblk _ (a.slt e))).trans l,N.mono f⟩
 ·by_cases e2:b=lo
  ·subst e2;have:=k _ e;subst this;cases hs:M.sg m.cg j with
   | none=>exact hs
   | some v=>have:=a.slt hs;have:=t d;omega
  ·simp only[jF,Zaa e2] at h;exact a.sep b i m h hw (hold _ _ e2 e) d j F
 ·by_cases e2:b=lo
  ·grind [jF]
  ·simp only[jF,Zaa e2] at h;exact(a.LL b c xs e m h (hold _ _ e2 n) d).mono f.2
 ·by_cases e2:b=lo
  ·subst e2;have:=k _ e;subst this;rw[t d];exact a.mZ.1.1
  ·simp only[jF,Zaa e2] at h;exact a.mZ.2 b i m h hw (hold _ _ e2 e) d
 ·show(if b=lo then some mi else M.pl b)=M.pl b
  grind
 all_goals grind [jF]
theorem dq.alloc (b:eP M H w) (g:M.pl lo=none) (o:AO D.E) (ob:Obj) (mi:MI) (d:mi.cg=w.heap.size) (i:OR (M.add lo mi) o mi (w.alloc ob))
  (a:∀c xs e,o=.arr c xs e true->mi.real->cN (M.add lo mi) mi.cg mi.sh c xs:=by intro _ _ _ h;cases h):
  dq H M w (jF H lo (some o)) (M.add lo mi) (w.alloc ob) lo (lo+1):=
 dq.oh b g o mi (λ_=>d) (by simp) (λc f=>Below.heap_alloc _ _ _ f) rfl rfl rfl i a
theorem dq.upon {b0 b1:Nat} {o0 o1:AO D.E} {sG CB:MI} {M1:Pm D} {sg1:Nat->Nat->Option (AV D.E)} (i:eP M H w) (y:H b0=some o0) (t:o0.wr) (A:M.pl b0=some sG) (l:sG.real) (hr1:CB.real) (hblk:CB.cg=sG.cg)
  (r:M1=⟨λc=>if c=b1 then some CB else M.pl c,sg1⟩)
  (Z:(b1=b0/\CB=sG/\hi=lo)\/(b1=lo/\M.pl lo=none/\hi=lo+1))
  (B:∀b o v,M.sg b o=some v->sg1 b o=some v) (k:∀b o,sg1 b o≠none->M.sg b o≠none\/b=sG.cg)
  (dF:w'.heap.size=w.heap.size) (hk:∀c,c≠sG.cg->w'.heap[c]?=w.heap[c]?) (U:w'.os=w.os) (V:w'.tape=w.tape) (W:w'.output=w.output)
  (ho:OR M1 o1 CB w') (hse:∀o v,sg1 sG.cg o=some v->nh v/\∃C,w'.cell? ⟨sG.cg,o,none⟩=some C/\VR M1 v C) (R:o1.wr->∀j,o1.ui CB j->sg1 CB.cg j=none)
  (hro:∀c xs e,o1=.arr c xs e true->cN M1 CB.cg CB.sh c xs:=by intro _ _ _ h;cases h):
  dq H M w (λc=>if c=b1 then some o1 else if c=b0 then none else H c) M1 w' lo hi:=by
 have Q:b1≠b0->M.pl b1=none:=λe=>by
  grind
 have g:sx.Le M M1:=by
  subst r;refine⟨λc m z=>?_,B⟩;grind
 have J:∀m,M1.pl b1=some m->m=CB:=λm h=>by simp_all
 have d:∀c m,c≠b1->M1.pl c=some m->M.pl c=some m:=λc m e h=>by subst r;simpa [e] using h
 have f:∀c a,c≠b1->(if c=b1 then some o1 else if c=b0 then none else H c)=some a->H c=some a/\c≠b0:=λc a e h=>by
  grind
 have N:∀c a m,H c=some a->c≠b0->M.pl c=some m->m.real->m.cg≠sG.cg:=λc a m h e s p K=>e (i.inj c b0 a o0 m sG h y s A p l K)
 have n:M1.sg=sg1:=by grind
 refine⟨⟨λc a h=>?_,λc F p1 p2 m1 m2 h1 I S e2 r1 r2 K=>?_,λb o v e=>?_,λc a m h hw e p j X=>?_,λb c xs e m h L p=>?_,⟨by rw[dF];exact i.mZ.1.1,D.gst _ _ (λc z=>hk c (λq=>by have:=i.mZ.2 b0 o0 sG y t A l;omega)) i.mZ.1.2⟩,λc a m h hw e p=>?_⟩,λc z=>?_,g.2,λb o h=>?_,Zd1 dF.symm,λc z Y=>hk c λe=>Y ⟨b0,o0,sG,y,t,A,l,e.symm⟩,λc a m h e p=>?_,λc h=>?_,U,V,W,?_⟩
 ·by_cases e:c=b1
  ·rw[Zac e] at h;cases h;exact⟨CB,by subst r;simp[e],ho⟩
  ·have⟨h1,I⟩:=f c a e h;have⟨m,s,O⟩:=i.obj c a h1;exact⟨m,g.1 _ _ s,O.mono g λp=>hk _ (N c a m h1 I s p)⟩
 ·by_cases e:c=b1<;>by_cases G:F=b1
  ·rw[e,G]
  ·grind
  ·grind
  ·have⟨q1,P⟩:=f c p1 e h1;have⟨q3,q4⟩:=f F p2 G I;exact i.inj c F p1 p2 m1 m2 q1 q3 (d _ _ e S) (d _ _ G e2) r1 r2 K
 ·rw[n] at e;by_cases T:b=sG.cg
  ·grind
  ·rcases k b o (by grind) with x | x
   ·have⟨u,hu⟩:=Zbs.1 x;have:=B _ _ _ hu;rw[e] at this;cases this;have⟨hp,C,z,hv⟩:=i.ia b o v hu;exact⟨hp,C,(gL (hk _ T)).trans z,hv.mono g⟩
   ·omega
 ·rw[n];by_cases e2:c=b1
  ·grind
  ·have⟨q1,P⟩:=f c a e2 h;cases hs:sg1 m.cg j with
   | none=>rfl
   | some v=>
    exfalso;rcases k m.cg j (by grind) with x | x
    ·exact x (i.sep c a m q1 hw (d _ _ e2 e) p j X)
    ·grind
 ·by_cases e2:b=b1
  ·grind
  ·have⟨q1,P⟩:=f b _ e2 h;exact(i.LL b c xs e m q1 (d _ _ e2 L) p).mono g.2
 ·by_cases e2:c=b1
  ·subst e2;have:=J _ e;subst this;rw[hblk];exact i.mZ.2 b0 o0 sG y t A l
  ·have⟨q1,P⟩:=f c a e2 h;exact i.mZ.2 c a m q1 hw (d _ _ e2 e) p
 ·subst r;grind
 ·rw[n] at h;rcases k b o h with x | x
  ·grind
  ·exact .inr (.inr ⟨b0,o0,sG,y,t,A,l,x.symm⟩)
 ·grind
 ·grind
 ·omega
theorem dq.drop (g:eP M H w) (lo:Nat):dq H M w (jF H b none) M w lo lo:=by
 have d:∀a f,jF H b none a=some f->H a=some f:=λa f h=>by
  grind [jF]
 exact⟨⟨λa f h=>g.obj a f (d a f h),λa i o1 f m1 m2 h1 j=>g.inj a i o1 f m1 m2 (d _ _ h1) (d _ _ j),g.ia,λa f m h=>g.sep a f m (d _ _ h),λa c xs e m h=>g.LL a c xs e m (d _ _ h),g.mZ.1,λa f m h=>g.mZ.2 a f m (d _ _ h)⟩,λ_ _=>rfl,λ_ _ _ h=>h,λ_ _ h=>.inl h,Zah _,λ_ _ _=>rfl,
  λa f m h e l=>.inr ⟨a,f,m,d _ _ h,e,l,rfl,id⟩,λa h=>.inl (by have⟨o,k⟩:=Zbs.1 h;rw[d _ _ k];simp),rfl,rfl,rfl,Zah _⟩
def eP.sub {K:Hp D} (h:eP M H w) (f:∀b o,K b=some o->H b=some o):eP M K w:=
 ⟨λb o a=>h.obj b o (f b o a),λb j o k d i a g=>h.inj b j o k d i (f _ _ a) (f _ _ g),h.ia,λb o d a=>h.sep b o d (f _ _ a),λb c xs e d a=>h.LL b c xs e d (f _ _ a),h.mZ.1,λb o d a=>h.mZ.2 b o d (f _ _ a)⟩
end
end
variable {k:IntKind} {x:Int} {m:Nat}
theorem rZ (x y:Int):Zg x y=(x==y):=by
 cases x<;>cases y<;>rw[ZaG]<;>simp[Zg,-Int.ofNat_eq_natCast]<;>try exact ZbW
theorem HY (x y:Int):Zq x y=decide (x<y):=by
 rw[ZaG,ZbP];cases x with
 | ofNat a=>cases y with
  | ofNat b=>show Nat.ble (a+1) b↔_;rw[cG];simp;omega
  | negSucc b=>simp[Zq];omega
 | negSucc a=>cases y with
  | ofNat b=>simp[Zq];omega
  | negSucc b=>show Nat.ble (b+1) a↔_;rw[cG];omega
theorem gC {b:IntKind}:Cj k b↔k=b:=by
 cases k<;>cases b<;>decide
theorem iu {v:CV}:Q8 k x=some v↔v=.num k x:=by
 cases x with
 | ofNat m=>cases m with
  | zero=>exact⟨λh=>by cases(show some (CV.num k (.ofNat 0))=some v from h);rfl,λh=>by rw[h];rfl⟩
  | succ m=>exact⟨λh=>by cases(show some (CV.num k (.ofNat (m+1)))=some v from h);rfl,λh=>by rw[h];rfl⟩
 | negSucc m=>cases m with
  | zero=>exact⟨λh=>by cases(show some (CV.num k (.negSucc 0))=some v from h);rfl,λh=>by rw[h];rfl⟩
  | succ m=>exact⟨λh=>by cases(show some (CV.num k (.negSucc (m+1)))=some v from h);rfl,λh=>by rw[h];rfl⟩
theorem sR {v:CV}:mkN m=some v↔v=.num .i64 (m:Int):=by
 cases m with
 | zero=>exact⟨λh=>by cases(show some (CV.num .i64 (.ofNat 0))=some v from h);rfl,λh=>by rw[h];rfl⟩
 | succ n=>exact⟨λh=>by cases(show some (CV.num .i64 (.ofNat (n+1)))=some v from h);rfl,λh=>by rw[h];rfl⟩
theorem LN (k:IntKind) (n:Int) (h1: -(kLo k:Int)<=n) (a:n<=(kHi k:Int)):k.wrap n=n:=by
 cases k<;>simp only[kLo,kHi] at h1 a
 ·grind [IntWalk.i8_in]
 ·grind [IntWalk.i16_in]
 ·grind [IntWalk.i32_in]
 ·grind [IntWalk.i64_in]
 ·grind [IntWalk.u8_in]
 ·grind [IntWalk.u16_in]
 ·grind [IntWalk.u32_in]
 ·grind [IntWalk.u64_in]
theorem j9 (k:IntKind) (n:Int):sM k n=k.wrap n:=by
 cases n with
 | ofNat m=>
  show Bool.rec (motive:=λ_=>Int) (k.wrap (.ofNat m)) (.ofNat m) (Nat.ble m (kHi k))=_
  cases h:Nat.ble m (kHi k)
  ·rfl
  ·grind [cG,LN]
 | negSucc m=>
  show Bool.rec (motive:=λ_=>Int) (k.wrap (.negSucc m)) (.negSucc m) (Nat.ble (m+1) (kLo k))=_
  cases h:Nat.ble (m+1) (kLo k)
  ·rfl
  ·grind [cG,LN]
def LO (k:IntKind):vP k=2 ^ k.bits:=by cases k<;>rfl
theorem ll (k:IntKind) (n:Int):D' k n=(BitVec.ofInt k.bits n).toNat:=by
 rw[BitVec.toNat_ofInt];cases n with
 | ofNat m=>
  show Nat.mod m (vP k)=_
  rw[LO];rfl
 | negSucc m=>
  show Nat.sub (Nat.sub (vP k) 1) (Nat.mod m (vP k))=_
  have a:0<2 ^ k.bits:=Nat.two_pow_pos _;have b:m % 2 ^ k.bits<2 ^ k.bits:=Zc4 _ a;rw[LO];show 2 ^ k.bits-1-m % 2 ^ k.bits=_
  have e:(Int.negSucc m) % ((2 ^ k.bits:Nat):Int)=((2 ^ k.bits-1-m % 2 ^ k.bits:Nat):Int):=by
   rw[Int.negSucc_emod _ ω];omega
  omega
theorem CC (a b:Nat):Q9 a b=min a b:=by
 show Bool.rec (motive:=λ_=>Nat) b a (Nat.ble a b)=_
 cases h:Nat.ble a b
 ·grind [Ej]
 ·simp_all
def QU (v:CV):Value:=match v with
 | .num k n=>.int k n
 | .lit b=>.bool b
theorem cY:lf k x↔D1 k<=x/\x<=ue k:=by simp[lf,aM]
theorem cV (k:IntKind) (n:Int):lf k (k.wrap n):=by
 rw[cY];cases k<;>simp only[D1,ue,IntKind.wrap,IntKind.bits,IntKind.signed]<;>simp<;>(try split)<;>omega
theorem dW (h:lf k x):k.wrap x=x:=by
 rw[cY] at h;cases k<;>simp only[D1,ue] at h
 ·exact IntWalk.i8_in x h
 ·exact IntWalk.i16_in x h
 ·exact IntWalk.i32_in x h
 ·exact IntWalk.i64_in x h
 ·exact IntWalk.u8_in x h
 ·exact IntWalk.u16_in x h
 ·exact IntWalk.u32_in x h
 ·exact IntWalk.u64_in x h
theorem jZ (h:m<=9223372036854775807):lf .i64 (m:Int):=by grind [cY,D1,ue]
def sS (b:UInt8):lf .u8 (b.toNat:Int):=by rw[cY];simp only[D1,ue];have:=b.toNat_lt;omega
theorem En {y:Int} (h:lf k x):lf k (Int.tmod x y):=by
 rw[cY] at*
 have h0:D1 k<=0/\0<=ue k:=by cases k<;>simp[D1,ue]
 rcases Int.le_total 0 x with b | b
 ·have h1:=Int.tmod_nonneg y b;have d:Int.tmod x y<=x:=by
   rcases Int.natAbs_eq y with a | a
   ·rw[a,Zcc b];rcases ZbO y.natAbs with h0 | h0
    ·grind
    ·have:=ZcM x (show(0:Int)<y.natAbs by omega);by_cases c:x<y.natAbs
     ·grind [Int.emod_eq_of_lt]
     ·omega
   ·rw[a,Int.tmod_neg,Zcc b];rcases ZbO y.natAbs with h0 | h0
    ·grind
    ·have:=ZcM x (show(0:Int)<y.natAbs by omega);by_cases c:x<y.natAbs
     ·grind [Int.emod_eq_of_lt]
     ·omega
  omega
 ·obtain⟨z,rfl⟩:∃z,x= -z:=⟨-x,ω⟩;rw[Int.neg_tmod];have hz:0<=z:=ω;have h1:=Int.tmod_nonneg y hz;have d:Int.tmod z y<=z:=by
   rcases Int.natAbs_eq y with a | a
   ·rw[a,Zcc hz];rcases ZbO y.natAbs with h0 | h0
    ·grind
    ·have:=ZcM z (show(0:Int)<y.natAbs by omega);by_cases c:z<y.natAbs
     ·grind [Int.emod_eq_of_lt]
     ·omega
   ·rw[a,Int.tmod_neg,Zcc hz];rcases ZbO y.natAbs with h0 | h0
    ·grind
    ·have:=ZcM z (show(0:Int)<y.natAbs by omega);by_cases c:z<y.natAbs
     ·grind [Int.emod_eq_of_lt]
     ·omega
  omega
theorem LP (h:lf k x) (h0:0<=x):lf k (x / 2 ^ m):=by
 rw[cY] at*
 have h1:0<=x / 2 ^ m:=Int.ediv_nonneg h0 (by grind);have a:x / 2 ^ m<=x:=Int.ediv_le_self _ h0;have b:D1 k<=0:=by cases k<;>simp[D1]
 omega
section
variable {P:Program} {D:Data} {M:Pm D}
variable {Z:BinOp} {k d:IntKind} {v:CV} {x y:Int} {Y:AV D.E}
theorem Qjk (h:∀k n,v=.num k n->lf k n):VR M (Ea v:AV D.E) (QU v):=by
 cases v with
 | num k n=>exact .num (h k n rfl)
 | lit b=>exact .lit b
theorem RN (h:(Zw D Z k x y).H Y) (i:lf k x) (T:TypeId) (h1:Z≠.shl) (f:Z≠.shr):
  ∃d,(∀w,(binOp Z T (.int k x) (.int k y)).run P w=.ok d w)/\VR M Y d:=by
 cases Z<;>simp only[Zw] at h<;>(try exact absurd rfl h1)<;>(try exact absurd rfl f)<;>(try exact h.elim)
 case add=>cases av.1 h;exact⟨_,λw=>by simp[binOp,Op.intArith];rfl,.int (cV _ _)⟩
 case sub=>cases av.1 h;exact⟨_,λw=>by simp[binOp,Op.intArith];rfl,.int (cV _ _)⟩
 case mul=>cases av.1 h;exact⟨_,λw=>by simp[binOp,Op.intArith];rfl,.int (cV _ _)⟩
 case quo=>
  obtain⟨h0,h⟩:=dv.1 h;cases av.1 h;have c:y≠0:=by grind [aE]
  exact⟨_,λw=>by simp[binOp,Op.intDiv,c];rfl,.int (cV _ _)⟩
 case rem=>
  obtain⟨h0,h⟩:=dv.1 h;cases av.1 h;have c:y≠0:=by grind [aE]
  exact⟨_,λw=>by simp[binOp,Op.intDiv,c];rfl,.int (En i)⟩
 case and=>cases av.1 h;exact⟨.int k (k.wrap ((BitVec.ofInt k.bits x&&& BitVec.ofInt k.bits y).toNat:Int)),λw=>by grind [binOp,Op.intBits,Sem.run_pure],by rw[BitVec.toNat_and,<-ll,<-ll];exact .int (cV _ _)⟩
 case or=>cases av.1 h;exact⟨.int k (k.wrap ((BitVec.ofInt k.bits x||| BitVec.ofInt k.bits y).toNat:Int)),λw=>by grind [binOp,Op.intBits,Sem.run_pure],by rw[BitVec.toNat_or,<-ll,<-ll];exact .int (cV _ _)⟩
 case xor=>cases av.1 h;exact⟨.int k (k.wrap ((BitVec.ofInt k.bits x ^^^ BitVec.ofInt k.bits y).toNat:Int)),λw=>by grind [binOp,Op.intBits,Sem.run_pure],by rw[Zdu,<-ll,<-ll];exact .int (cV _ _)⟩
 all_goals
  cases av.1 h;refine⟨_,λw=>by simp only[binOp,Op.intCmp,ne_eq,Zce,Za0,Zzc];rfl,?_⟩;have g:∀a b:Bool,a=b->VR M (.bool a:AV D.E) (.bool b):=λa b e=>e▸.bool a
  apply g;rfl
theorem Eo (h:(Zx D Z k d x y).H Y) (f:lf k x) (T:TypeId):
  ∃g,(∀w,(binOp Z T (.int k x) (.int d y)).run P w=.ok g w)/\VR M Y g:=by
 by_cases h1:Z=.shl
 ·subst h1;obtain⟨h0,a⟩:=dv.1 (show(ask (aM 0 y) _).H Y from h);cases av.1 a;have:¬y<0:=by grind [aM]
  exact⟨_,λw=>by simp only[binOp,Op.shift,Zaa this,Zzc];rfl,.int (cV _ _)⟩
 ·by_cases a:Z=.shr
  ·subst a;obtain⟨h0,b⟩:=dv.1 (show(ask (aM 0 y) _).H Y from h);obtain⟨l,j⟩:=dv.1 (show(ask (aM 0 x) _).H Y from b);cases av.1 j;have:¬y<0:=by grind [aM]
   have c:0<=x:=by grind [aM]
   refine⟨.int k (x.fdiv (2 ^ min y.toNat k.bits)),λw=>by grind [binOp,Op.shift,Sem.run_pure],?_⟩;rw[Zdi _ (by grind)];exact .int (LP f c)
  ·have i:(bB (Cj k d) (Zw D Z k x y)).H Y:=by
    cases Z<;>first | exact h | exact absurd rfl h1 | exact absurd rfl a
   obtain⟨e,b⟩:=bH.1 i;obtain rfl:=gC.1 e;exact RN b f T h1 a
theorem qI {n:Nat} (h:N7 k n=some v):v=.num k (k.wrap n):=by
 grind [N7,iu,j9]
theorem RO (h:Zr Z k x y=some v) (c:lf k x) (T:TypeId) (h1:Z≠.shl) (b:Z≠.shr):
  (∀w,(binOp Z T (.int k x) (.int k y)).run P w=.ok (QU v) w)/\∀a n,v=.num a n->lf a n:=by
 cases Z<;>simp only[Zr] at h<;>(try cases h)<;>(try exact absurd rfl h1)<;>(try exact absurd rfl b)
 case add=>rw[iu,j9] at h;subst h;exact⟨λw=>by simp[binOp,Op.intArith,QU],λ_ _ e=>by grind [cV]⟩
 case sub=>rw[iu,j9] at h;subst h;exact⟨λw=>by simp[binOp,Op.intArith,QU];rfl,λ_ _ e=>by grind [cV]⟩
 case mul=>rw[iu,j9] at h;subst h;exact⟨λw=>by simp[binOp,Op.intArith,QU],λ_ _ e=>by grind [cV]⟩
 case quo=>
  rw[CA] at h;rcases h with⟨_,h⟩ | ⟨h0,h⟩
  ·cases h
  ·rw[iu,j9] at h;subst h;rw[rZ] at h0;have:y≠0:=by grind
   exact⟨λw=>by simp[binOp,Op.intDiv,this,QU],λ_ _ e=>by grind [cV]⟩
 case rem=>
  rw[CA] at h;rcases h with⟨_,h⟩ | ⟨h0,h⟩
  ·cases h
  ·rw[iu] at h;subst h;rw[rZ] at h0;have:y≠0:=by grind
   exact⟨λw=>by simp[binOp,Op.intDiv,this,QU],λ_ _ e=>by grind [En]⟩
 case and=>have:=qI h;subst this;exact⟨λw=>by simp[binOp,Op.intBits,QU,ll,BitVec.toNat_and];try rfl,λ_ _ e=>by grind [cV]⟩
 case or=>have:=qI h;subst this;exact⟨λw=>by simp[binOp,Op.intBits,QU,ll,BitVec.toNat_or];try rfl,λ_ _ e=>by grind [cV]⟩
 case xor=>have:=qI h;subst this;exact⟨λw=>by simp[binOp,Op.intBits,QU,ll,Zdu];try rfl,λ_ _ e=>by grind [cV]⟩
 all_goals
  refine⟨λw=>?_,λ_ _ e=>by cases e⟩
  (simp[binOp,Op.intCmp,QU,rZ,HY];try rw[ZaG];try simp;try omega)
theorem HZ (h:Ck Z k d x y=some v) (f:lf k x) (T:TypeId):
  (∀w,(binOp Z T (.int k x) (.int d y)).run P w=.ok (QU v) w)/\∀k2 n,v=.num k2 n->lf k2 n:=by
 by_cases h1:Z=.shl
 ·subst h1;simp only[Ck] at h;cases y with
  | negSucc m=>cases h
  | ofNat m=>
   simp only[QiV] at h;rw[iu,j9,CC] at h;subst h;refine⟨λw=>?_,λ_ _ e=>by grind [cV]⟩;rfl
 ·by_cases a:Z=.shr
  ·subst a;simp only[Ck] at h;cases y with
   | negSucc m=>cases h
   | ofNat m=>
    cases x with
    | negSucc x=>cases h
    | ofNat x=>
     simp only[QiW] at h;rw[iu,CC] at h;subst h;have e:Int.fdiv (Int.ofNat x) (2 ^ min (Int.ofNat m).toNat k.bits)=Int.ofNat (Nat.div x (Nat.pow 2 (min m k.bits))):=by
      show Int.fdiv (Int.ofNat x) (2 ^ min m k.bits)=_
      rw[show(2:Int) ^ min m k.bits=((2 ^ min m k.bits:Nat):Int) by simp,Zdi _ (ZaF _)];rfl
     refine⟨λw=>?_,λk2 n e2=>?_⟩
     ·have:¬((m:Int)<0):=ω;simp only[binOp,Op.shift];rw[Zaa (by simp),e];rfl
     ·grind [LP]
  ·have c:oI (Cj k d) (Zr Z k x y)=some v:=by
    cases Z<;>first | exact h | exact absurd rfl h1 | exact absurd rfl a
   obtain⟨e,b⟩:=mh.1 c;obtain rfl:=gC.1 e;exact RO b f T h1 a
theorem bytesLess_eq:∀(x y:List UInt8),Op.bytesLess x y=decide (x<y)
 | [],[]=>by rfl
 | [],_::_=>by rfl
 | _::_,[]=>by rfl
 | a::x,b::y=>by
  show(a<b||(a==b&&Op.bytesLess x y))=_
  rw[bytesLess_eq x y,ZaG];simp[List.cons_lt_cons_iff]
theorem H_ {x y:List UInt8} (h:(Cm D Z x y).H Y) (T:TypeId):∃d,(∀w,(binOp Z T (.string ⟨⟨x⟩⟩) (.string ⟨⟨y⟩⟩)).run P w=.ok d w)/\VR M Y d:=by
 have hl:∀z:List UInt8,(⟨⟨z⟩⟩:ByteArray).toList=z:=λz=>by
  simp_all
 have c:∀a b:List UInt8,Bool.not (decide (b<a))=(decide (a<b)||(a==b)):=λa b=>by
  grind
 cases Z<;>simp only[Cm] at h<;>(try exact h.elim)
 case add=>
  obtain⟨h0,h⟩:=dv.1 h;cases av.1 h;have h1:x.length+y.length<=9223372036854775807:=by
   have:((zS x y).length:Int)<=9223372036854775807:=ZaH h0;grind [zS]
  refine⟨.string ⟨⟨x++y⟩⟩,λw=>?_,.str (by grind [zS])⟩;have hs:¬((((⟨⟨x⟩⟩:ByteArray).size+(⟨⟨y⟩⟩:ByteArray).size:Nat):Int)>IntKind.i64.max):=by
   show ¬(((x.length+y.length:Nat):Int)>9223372036854775807)
   omega
  have g:(⟨⟨x⟩⟩:ByteArray)++⟨⟨y⟩⟩=⟨⟨x++y⟩⟩:=by
   rfl
  grind [binOp,Op.stringOp,Sem.run_pure]
 all_goals
  cases av.1 h;refine⟨_,λw=>by simp only[binOp,Op.stringOp,Zzc,hl,bytesLess_eq];rfl,?_⟩;have f:∀a b:Bool,a=b->VR M (.bool a:AV D.E) (.bool b):=λa b e=>e▸.bool a
  apply f;simp only[seq,slt]<;>first | rfl | (rw[ZaG];simp;done) | exact c _ _ | (rw[<-c];simp)
end
structure FR {D:Data} (M:Pm D) (φ:T (AV D.E)) (a:Act) (N:Nat):Prop where
 at_:∀t v,φ.get t=some v->VR M v (a.tmps.getD t Go.undef)
 size:a.tmps.size=N
 defers:a.defers=[]
theorem not_iff {b:Bool}:Bool.not b↔b=false:=by grind
theorem jg {a b:Bool}:Bool.and a b↔a/\b:=by grind
section
variable {P:Program} {D:Data} {M M':Pm D} {φ:T (AV D.E)} {a:Act} {N:Nat} {w:World} {H:Hp D} {s s':St D.E}
variable {b o j:Nat} {e:TypeId} {d:List (AV D.E)} {v y:AV D.E} {z:Value} {Z:MI} {X:TypeDesc} {W:Array Value} {l:AO D.E}
variable {V:List (D.E b)}
def FR.mono (h:FR M φ a N) (b:Le M M'):FR M' φ a N:=⟨λt v e=>(h.at_ t v e).mono b,h.size,h.defers⟩
theorem LQ (h:Q' z=some v):VR M v z:=by
 unfold Q' at h;split at h
 ·cases h;exact .lit _
 ·rename_i k n
  obtain⟨h1,a⟩:=mh.1 h;cases a;rw[jg,not_iff,not_iff,HY,HY] at h1;exact .num (cY.2 ⟨by grind,by grind⟩)
 ·rename_i s
  obtain⟨h1,a⟩:=mh.1 h;cases a;have b:=cG.1 h1;rw[jY] at b;have:VR M (.str s.data.toList:AV D.E) (.string ⟨⟨s.data.toList⟩⟩):=.str b;exact this
 ·cases h;exact .nilFunc
 ·cases h;exact .nilIface
 ·split at h
  ·cases h;exact .fY
  ·cases h
 ·split at h
  ·cases h;exact .rD
  ·cases h
 ·split at h
  ·obtain⟨h1,a⟩:=mh.1 h;cases a;rw[jg,aQ,aQ] at h1;obtain⟨rfl,rfl⟩:=h1;exact .dc
  ·cases h
 ·split at h
  ·rename_i v y _ g
   obtain⟨h1,a⟩:=mh.1 h;cases a;rw[jg,aQ,aQ,jY,jY] at h1;exact .func _ h1.1.symm (λi z c e=>by simp at e) h1.2.symm (λi z c e=>by simp at e)
  ·cases h
 ·cases h
theorem CD:∀{l:List Value} {r:List (AV D.E)},Zu l=some r->LR M r l
 | [],r,h=>by cases(show some []=some r from h);exact .nil
 | v::l,r,h=>by
  obtain⟨x,d,h1⟩:=aJ.1 (show oB (Q' v) (λa=>oB (Zu l) λr=>some (a::r))=some r from h);obtain⟨e,c,b⟩:=aJ.1 h1;cases b;exact .cons (LQ d) (CD c)
theorem RP (h:ofV z=some v):VR M v z:=by
 unfold ofV at h;split at h
 ·obtain⟨l,hl,h1⟩:=aJ.1 h;cases h1;have:=CD (M:=M) hl;exact .agg this.1 this.2
 ·obtain⟨l,hl,h1⟩:=aJ.1 h;cases h1;have:=CD (M:=M) hl;exact .tuple this.1 this.2
 ·exact LQ h
theorem ey {x:Operand} (h:(ev P D φ x).H v) (c:FR M φ a N):VR M v (a.eval x):=by
 cases x with
 | tmp t=>exact c.at_ t v (bO.1 h)
 | const u=>exact RP (bO.1 h)
 | global g=>
  obtain⟨_,b⟩:=bH.1 (show(bB (Nat.ble (g+1) P.globals.size) (.ret (.lg g 0))).H v from h);cases av.1 b;exact .lg g 0
 | func f=>
  cases av.1 (show(C.ret (.func (.func f) [] [])).H v from h);exact .func _ rfl (λi v d e=>by simp at e) rfl (λi v d e=>by simp at e)
theorem RQ:∀{xs:List Operand} {b:List (AV D.E)},(Ra P D φ xs).H b->FR M φ a N->LR M b (xs.map a.eval)
 | [],b,h,_=>by cases av.1 (show(C.ret []).H b from h);exact .nil
 | x::xs,b,h,hf=>by
  obtain⟨v,e,h1⟩:=ak.1 (show(aB (ev P D φ x) λv=>aB (Ra P D φ xs) λb=>.ret (v::b)).H b from h);obtain⟨us,c,d⟩:=ak.1 h1;cases av.1 d;exact .cons (ey e hf) (RQ c hf)
theorem qJ (h:vQ P e=some b):∃i,P.info? e=some i/\i.size=b:=by
 unfold vQ at h;cases hi:P.info? e with
 | none=>rw[hi] at h;cases h
 | some i=>rw[hi] at h;cases h;exact⟨i,rfl,rfl⟩
theorem uj:(sz P e).H b↔vQ P e=some b:=bO
def iv:(vR P e).H X↔P.underlying e=some X:=bO
theorem AJ (h:Zv P e=some b):∃i,P.info? e=some i/\i.bytes=b:=by
 unfold Zv at h;cases hi:P.info? e with
 | none=>rw[hi] at h;cases h
 | some i=>rw[hi] at h;cases h;exact⟨i,rfl,rfl⟩
theorem ni (h:(zeroOf P D e).H v):∃i a,P.info? e=some i/\i.zero=some a/\∀M:Pm D,VR M v a:=by
 obtain⟨i,hi,h1⟩:=ak.1 h;grind [ak,bO,RP]
def da (h:vQ P e=some b) (w:World):(sizeOf e).run P w=.ok b w:=by
 obtain⟨i,hi,hk⟩:=qJ h;simp[sizeOf,typeInfo,hi,hk]
def sT {i:TypeInfo} (hi:P.info? e=some i) (hz:i.zero=some z) (w:World):(zeroValue e).run P w=.ok z w:=by
 simp[zeroValue,typeInfo,hi,hz]
def wG (h:P.underlying e=some X) (w:World):(isAgg e).run P w=.ok (QfH X) w:=by
 cases X<;>simp[isAgg,Zza h,QfH]
theorem RR (b o n:Nat):Addr.add ⟨b,o,none⟩ n=⟨b,o+n,none⟩:=Addr.add_lit b o n
theorem kW (h:(kD P D e d b).H v) (hl:LR M d W.toList):∃o,(∀w,(part e W b).run P w=.ok o w)/\VR M v o:=by
 obtain⟨cs,g,h1⟩:=ak.1 h;rw[iv] at g;rcases iW.1 h1 with⟨f,c⟩ | ⟨f,c⟩
 ·obtain⟨k,hk,a⟩:=ak.1 c;obtain⟨l,i,m⟩:=ak.1 a;cases av.1 m;rw[uj] at hk;obtain⟨p,rfl⟩:=jK (bO.1 i);rw[nf] at*
  refine⟨.agg (W.extract b (b+k)),λw=>by simp[part,wG g,f,da hk],?_⟩;have t:(W.extract b (b+k)).toList=(W.toList.drop b).take k:=by
   simp_all
  exact .agg (by rw[t];exact((hl.drop b).take k).1) (by rw[t];exact((hl.drop b).take k).2)
 ·have a:=bO.1 c;rw[fD] at a;obtain⟨o,j,n⟩:=hl.get a;rw[ZaL] at j;exact⟨o,λw=>by simp[part,wG g,f,j],n⟩
def qK (h:(qF s b).H d):∃e ro,s.h.get b=some (.cells d e ro):=by
 obtain⟨o,a,h1⟩:=ak.1 h;cases o<;>first | (cases av.1 h1;exact⟨_,_,bO.1 a⟩) | exact h1.elim
theorem CE (h:(QfF s b).H (d,e)):s.h.get b=some (.cells d e false):=by
 obtain⟨o,cs,h1⟩:=ak.1 h;cases o with
 | cells a c ro=>
  cases ro
  ·grind [av,bO]
  ·exact h1.elim
 | arr=>exact h1.elim
 | tok=>exact h1.elim
theorem j3 {x:Ar D.E} (h:(lh s b).H x):s.h.get b=some (.arr x.c x.xs x.e x.ro):=by
 obtain⟨o,a,h1⟩:=ak.1 h;cases o with
 | arr c xs e ro=>cases av.1 (show(C.ret (⟨c,xs,e,ro⟩:Ar D.E)).H x from h1);exact bO.1 a
 | cells=>exact h1.elim
 | tok=>exact h1.elim
theorem ZH (h:(Qdm s b).H (o,e)):s.h.get b=some (.tok o e):=by
 obtain⟨c,f,h1⟩:=ak.1 h;cases c with
 | tok a d=>cases av.1 (show(C.ret (a,d)).H (o,e) from h1);exact bO.1 f
 | cells=>exact h1.elim
 | arr=>exact h1.elim
def lq {o:Option (AO D.E)} (h:(s.set b o).H s'):s'.h.get=jF s.h.get b o/\s'.nx=s.nx:=by
 obtain⟨t,ht,h1⟩:=ak.1 h;cases av.1 h1;exact⟨funext λc=>T.eu _ _ _ _ (bO.1 ht) c,rfl⟩
theorem rU (h:(s.new l).H (b,s')):b=s.nx/\s'.nx=s.nx+1/\s'.h.get=jF s.h.get s.nx (some l):=by
 unfold St.new at h;cases a:s.nx with
 | zero=>
  rw[a] at h;obtain⟨t,ht,h1⟩:=ak.1 (show(aB (dg (s.h.put 0 (some l))) _).H (b,s') from h);cases av.1 h1;exact⟨rfl,rfl,funext λc=>T.eu _ _ _ _ (bO.1 ht) c⟩
 | succ n=>
  rw[a] at h;obtain⟨t,ht,h1⟩:=ak.1 (show(aB (dg (s.h.put (n+1) (some l))) _).H (b,s') from h);cases av.1 h1;exact⟨rfl,rfl,funext λc=>T.eu _ _ _ _ (bO.1 ht) c⟩
def Rd (M:Pm D) (w:World) (b o:Nat) (cs:List (AV D.E)):Prop:=∀(i:Nat) (v:AV D.E),cs[i]?=some v->∃a,w.cell? ⟨b,o+i,none⟩=some a/\VR M v a
theorem Rd.list {b o:Nat} {cs:List (AV D.E)} (h:Rd M w b o cs):∃l,LR M cs l/\∀j v,l[j]?=some v->w.cell? ⟨b,o+j,none⟩=some v:=by
 refine⟨(List.range cs.length).map λi=>(w.cell? ⟨b,o+i,none⟩).getD default,⟨by simp,λi v m e g=>?_⟩,λj v c=>?_⟩
 ·have hi:=(Zam.1 e).1;obtain⟨u,hu,f⟩:=h i v e;grind
 ·rw[Zbk] at c;cases d:(List.range cs.length)[j]? with
  | none=>rw[d] at c;cases c
  | some k=>
   rw[d] at c;have a:j<cs.length:=by grind
   rw[List.getElem?_range a] at d;cases d;obtain⟨u,hu,f⟩:=h j _ (Zaf a);grind
theorem Rd.drop (h:Rd M w b o d) (n:Nat):Rd M w b (o+n) (d.drop n):=λi v e=>by
 rw[ZbX] at e;obtain⟨c,h1,a⟩:=h _ v e;grind
def Rd.take (h:Rd M w b o d) (n:Nat):Rd M w b o (d.take n):=λi v e=>by
 rw[Za7] at e;split at e
 ·exact h i v e
 ·cases e
theorem Rd.heap {a:World} (h:Rd M w b o d) (hw:a.heap=w.heap):Rd M a b o d:=λi v e=>by
 obtain⟨cs,h1,c⟩:=h i v e;grind [World.cell?]
def Rd.mono (c:Le M M') (h:Rd M w b o d):Rd M' w b o d:=λi v e=>let ⟨cs,h1,a⟩:=h i v e;⟨cs,h1,a.mono c⟩
def Rd.runs (h:Rd M w b o d):∃l,LR M d l/\l.length=d.length/\∀k,k<=d.length->∀a:World,a.heap=w.heap->(loadCells ⟨b,o,none⟩ k).run P a=.ok (l.take k).toArray a:=by
 obtain⟨l,hl,cs⟩:=h.list;refine⟨l,hl,hl.1.symm,λk hk a hw=>?_⟩;have:=run_loadCells_list (P:=P) (w:=a) ⟨b,o,none⟩ (l.take k) (λj v c=>by
  rw[Addr.add_lit];rw[Za7] at c;split at c
  ·have:=cs j v c;simp only[World.cell?] at this ⊢;rw[hw];exact this
  ·cases c)
 rw[Zar,<-hl.1,Zbj hk] at this;exact this
theorem Rd.run (h:Rd M w b o d):∃l,LR M d l/\l.length=d.length/\∀a:World,a.heap=w.heap->(loadCells ⟨b,o,none⟩ d.length).run P a=.ok l.toArray a:=by
 obtain⟨l,h1,c,cs⟩:=h.runs (P:=P);grind
theorem xw (h:(kD P D e d j).H v) (q:Rd M w b o d):
  ∃c,(Instr.loadAt e (.pointer (some ⟨b,o+j,none⟩))).run P w=.ok c w/\(loadVar e ⟨b,o+j,none⟩).run P w=.ok c w/\VR M v c:=by
 obtain⟨cs,m,s⟩:=ak.1 h;rw[iv] at m;have r:∀x:Value,(loadVar e ⟨b,o+j,none⟩).run P w=.ok x w->(Instr.loadAt e (.pointer (some ⟨b,o+j,none⟩))).run P w=.ok x w:=λx r=>by
  assumption
 rcases iW.1 s with⟨i,g⟩ | ⟨i,g⟩
 ·obtain⟨k,hk,f⟩:=ak.1 g;obtain⟨l,hl,u⟩:=ak.1 f;cases av.1 u;rw[uj] at hk;obtain⟨B,rfl⟩:=jK (bO.1 hl);rw[nf] at*
  obtain⟨A,p,hlen,a⟩:=((q.drop j).take k).run (P:=P);have n:((d.drop j).take k).length=k:=by grind
  rw[n] at a;have t:(loadVar e ⟨b,o+j,none⟩).run P w=.ok (.agg A.toArray) w:=by
   simp[loadVar,wG m,i,da hk,a w rfl]
  exact⟨_,r _ t,t,.Ek p⟩
 ·have f:=bO.1 g;rw[fD] at f;obtain⟨c,y,z⟩:=q j v f;have t:(loadVar e ⟨b,o+j,none⟩).run P w=.ok c w:=by
   simp[loadVar,wG m,i,load,Sem.run,y]
  grind
theorem QR.rd {ro:Bool} (h:QR M Z w d e ro):Rd M w Z.cg Z.sh d:=λi v hi=>by
 obtain⟨C,b,h1,c,cs,f,_⟩:=h;grind [World.cell?]
theorem bf (a:bb D) (c:Nat):∀xs:List (D.E c),(aX c xs).length=xs.length*D.size c
 | []=>by simp[aX]
 | x::xs=>by
  have:=bf a c xs;simp only[aX,Zbt,Zab,Zae] at this ⊢;rw[this,a.len,ZaV];omega
theorem gk (a:bb D) (c:Nat):∀(xs:List (D.E c)) (i j:Nat) (hi:i<xs.length),j<D.size c->(aX c xs)[i*D.size c+j]?=(D.bm c xs[i])[j]?
 | [],i,j,hi,_=>by grind
 | x::xs,0,j,_,hj=>by
  simp only[aX,Zbt,ZbS,Za6,List.getElem_cons_zero];rw[Zat (by rw[a.len];exact hj)]
 | x::xs,i+1,j,hi,hj=>by
  have:=gk a c xs i j (by grind) hj;simp only[aX,Zbt] at this ⊢;rw[Zaz (by rw[a.len,ZaV];omega),a.len,show(i+1)*D.size c+j-D.size c=i*D.size c+j by grind,this];simp
theorem kX (a:bb D) (h:Rd M w o j (aX b V)) {i:Nat} (hi:i<V.length):Rd M w o (j+i*D.size b) (D.bm b V[i]):=λc v e=>by
 have f:c<D.size b:=by rw[<-a.len b V[i]];exact(Zam.1 e).1
 obtain⟨g,h1,d⟩:=h (i*D.size b+c) v (by grind [gk]);grind
theorem CF {α:Type} {d:α} {xs:List α} (h:b<xs.length):gt d xs b=xs[b]:=by
 unfold gt;grind
def QfT (a:eP M H w) {x:D.E b} (h:∀(i:Nat) (v:AV D.E),(D.bm b x)[i]?=some v->M.sg o (j+i)=some v):Rd M w o j (D.bm b x):=λi v e=>(a.ia _ _ _ (h i v e)).2
theorem qL (f:bb D) (g:eP M H w) (h:cN M o j b V):Rd M w o j (aX b V):=λq v e=>by
 have c:=(Zam.1 e).1;rw[bf f] at c;have a:0<D.size b:=by
  grind
 have hi:q / D.size b<V.length:=Zc6 (by grind);have i:q % D.size b<D.size b:=Zc4 _ a;have d:q / D.size b*D.size b+q % D.size b=q:=by grind [Nat.div_add_mod]
 rw[<-d,gk f b V _ _ hi i] at e;have:=h _ hi _ v e;obtain⟨_,l,h1,k⟩:=g.ia _ _ _ this;grind
theorem AK (I:bb D) (h:(Eb P D s e v).H y) (L:VR M v z) (m:eP M s.h.get w):
  ∃l p,z=.pointer (some p)/\(Instr.loadAt e z).run P w=.ok l w/\(loadVar e p).run P w=.ok l w/\VR M y l:=by
 cases L<;>simp only[Eb] at h<;>(try exact h.elim)
 case ptr b o O n u=>
  obtain⟨cs,K,h1⟩:=ak.1 h;obtain⟨t,ro,J⟩:=qK K;obtain⟨r,a,_,f⟩:=m.obj b _ J;rw[n] at a;cases a;obtain⟨l,C,F,G⟩:=xw h1 f.rd;grind
 case mY b k i j O n u hk hi=>
  obtain⟨x,N,h1⟩:=ak.1 h;obtain⟨r,a,Q,R,f⟩:=m.obj b _ (j3 N);rw[n] at a;cases a;have g:i<x.xs.length:=ω;have B:(kD P D e (D.bm x.c x.xs[i]) j).H y:=by
   rw[<-CF (d:=D.Zt x.c) g];exact h1
  have A:=kX I (f u).rd g;grind [xw]
 case og c x b o j q=>
  obtain⟨l,C,F,G⟩:=xw h (QfT m q);grind
def wH (s:St D.E) (M:Pm D) (w:World) (r:Result Value) (v:AV D.E) (b:St D.E):Prop:=
 ∃a v' c,r=.ok v' c/\VR a v v'/\dq s.h.get M w b.h.get a c s.nx b.nx
theorem wH.pure (a:eP M s.h.get w) {r:Result Value} {v':Value} (b:r=.ok v' w) (c:VR M v v'):wH s M w r v s:=⟨M,v',w,b,c,.refl a _⟩
def Qjl (s:St D.E) (M:Pm D) (w:World) (r:Result Unit) (a:St D.E):Prop:=
 ∃c b,r=.ok () b/\dq s.h.get M w a.h.get c b s.nx a.nx
theorem dP (b:Nat):∀(a:List Value) (o:Nat) (w:World) (c:Nat),c≠b->(w.setCells b o a).heap[c]?=w.heap[c]?
 | [],_,_,_,_=>rfl
 | v::r,o,w,c,h=>(dP b r (o+1) _ c h).trans (Below.heap_setCell w ⟨b,o,none⟩ v c h)
theorem ee (b:Nat):∀(a:List Value) (o:Nat) (w:World),(w.setCells b o a).heap.size=w.heap.size
 | [],_,_=>rfl
 | c::r,o,_w=>(ee b r (o+1) _).trans (World.size_setCell _ _ _)
theorem ef (b:Nat):∀(a:List Value) (o:Nat) (w:World),(w.setCells b o a).os=w.os/\(w.setCells b o a).tape=w.tape/\(w.setCells b o a).output=w.output
 | [],_,_=>⟨rfl,rfl,rfl⟩
 | c::r,o,_w=>ef b r (o+1) _
theorem fU (b:Nat) (e:TypeId) (c:Nat×Nat):∀(d:List Value) (o:Nat) (w:World) (C:Array Value),w.heap[b]?=some (.cells C e c)->o+d.length<=C.size->
  ∃a,(w.setCells b o d).heap[b]?=some (.cells a e c)/\a.size=C.size/\∀i,a[i]?=if o<=i/\i<o+d.length then d[i-o]? else C[i]?
 | [],o,w,C,h,_=>⟨C,h,rfl,λi=>by grind⟩
 | v::r,o,w,C,h,hl=>by
  have h1:(w.setCell ⟨b,o,none⟩ v).heap[b]?=some (.cells (C.setIfInBounds o v) e c):=by
   show(w.heap.modify b _)[b]?=_
   grind
  obtain⟨a,f,g,j⟩:=fU b e c r (o+1) _ _ h1 (by grind);refine⟨a,f,by grind,λi=>?_⟩;grind
theorem sU {o1:AO D.E} {g:Nat×Nat} {q:Nat} {vs':List Value} (r:eP M H w) (s:H b=some l) (hw:l.wr) (m:M.pl b=some Z) (n:Z.real)
  (t:w.heap[Z.cg]?=some (.cells W e g)) (dF:W.size=Z.rS) (J:q+vs'.length<=Z.rS) (x:g.1=g.2\/Z.rS<=g.1/\Z.jM=1) (d:∀j,l.ui Z j)
  (z:∀k:Array Value,(w.setCells Z.cg q vs').heap[Z.cg]?=some (.cells k e g)->k.size=W.size->(∀i,k[i]?=if q<=i/\i<q+vs'.length then vs'[i-q]? else W[i]?)->OR M o1 Z (w.setCells Z.cg q vs')) (lo:Nat) (p:∀c xs e,o1=.arr c xs e true->False:=by intro _ _ _ h;cases h):
  (∀j,j<vs'.length->(w.cell? ⟨Z.cg,q+j,none⟩).isSome)/\(∀j,j<vs'.length->w.frozen? ⟨Z.cg,q+j,none⟩=false)/\
  dq H M w (jF H b (some o1)) M (w.setCells Z.cg q vs') lo lo:=by
 refine⟨λj y=>?_,λj y=>?_,?_⟩
 ·grind [World.cell?]
 ·grind [World.frozen?]
 ·obtain⟨k,q1,A,B⟩:=fU Z.cg e g vs' q w W t ω;obtain⟨F,G,I⟩:=ef Z.cg vs' q w;have f:∀j,M.sg Z.cg j=none:=λj=>r.sep b l Z s hw m n j (d j)
  have:=dq.upon (M1:=M) (sg1:=M.sg) (b0:=b) (b1:=b) (o1:=o1) (CB:=Z) (lo:=lo) (hi:=lo) r s hw m n n rfl (by
    cases M with
    | mk pl sg=>
     congr 1;funext c;by_cases e:c=b
     ·rw[Zac e,e];exact m
     ·rw[Zaa e]) (.inl ⟨rfl,rfl,rfl⟩) (λ_ _ _ h=>h) (λ_ _ h=>.inl h) (ee _ _ _ _) (λc u=>dP _ _ _ _ c u) F G I (z k q1 A B)
   (λo v h=>by grind) (λ_ j _=>f j) (λc xs e h=>(p c xs e h).elim)
  have e2:(λc=>if c=b then some o1 else if c=b then none else H c)=jF H b (some o1):=by
   grind [jF]
  grind
theorem xx {vs':List Value} (h:(uf D s b o d).H s') (m:M.pl b=some Z) (j:eP M s.h.get w) (n:LR M d vs') (h1:j7 one d):
  (storeCells ⟨Z.cg,Z.sh+o,none⟩ vs' 0).run P w=.ok () (w.setCells Z.cg (Z.sh+o) vs')/\dq s.h.get M w s'.h.get M (w.setCells Z.cg (Z.sh+o) vs') s.nx s'.nx:=by
 obtain⟨cs,e,hw,t⟩:=bD.1 h;obtain⟨f,x,u⟩:=ak.1 t;obtain⟨q1,F⟩:=lq u;have k:=CE hw;obtain⟨y,c,g,C,r,k1,k2,k3,k4,k5⟩:=j.obj b _ k;rw[m] at c;cases c;obtain⟨p1,p2,p3⟩:=jL (bO.1 x);have hl:=n.1;obtain⟨c1,c2,c3⟩:=sU (o1:=.cells f e false) (q:=Z.sh+o) (vs':=vs') j k rfl m g.1 k1 k2 ω (k5 rfl) (λ_=>trivial) (λp z A B=>⟨⟨g.1,g.2.1,ω⟩,p,r,z,A.trans k2,ω,λi v hi=>by
  rw[p3 i] at hi;rw[B];by_cases l:o<=i/\i<o+d.length
  ·rw[Zac l] at hi;rw[Zac ω,show Z.sh+i-(Z.sh+o)=i-o by omega];exact n.get hi
  ·rw[Zaa l] at hi;rw[Zaa ω];exact k4 i v hi,k5⟩) s.nx
 grind [run_storeCells_cells,uh]
theorem nj {α:Type} (xs:List α) (i:Nat) (x:α):(dh xs i x).length=xs.length:=by simp[dh]
theorem Ia (l:bb D) {vs':List Value} (h:(Rb D s b o j d).H s') (Q:M.pl b=some Z) (R:Z.real) (hi:o<Z.len) (N:eP M s.h.get w) (S:LR M d vs') (h1:j7 one d):
  (storeCells ⟨Z.cg,Z.sh+o*Z.jM+j,none⟩ vs' 0).run P w=.ok () (w.setCells Z.cg (Z.sh+o*Z.jM+j) vs')/\dq s.h.get M w s'.h.get M (w.setCells Z.cg (Z.sh+o*Z.jM+j) vs') s.nx s'.nx:=by
 obtain⟨⟨c,xs,e,ro⟩,Y,L⟩:=ak.1 h;have O:=j3 Y;cases ro with
 | true=>exact L.elim
 | false=>
  obtain⟨row,f,W⟩:=ak.1 (show(aB (dg (D_ j d (D.bm c (gt (D.Zt c) xs o)))) _).H s' from L);obtain⟨x,m,X⟩:=ak.1 W;obtain⟨q1,q2⟩:=lq X;obtain⟨a,i,g1,g2,A⟩:=N.obj b _ O;rw[Q] at i;cases i;obtain⟨C,V,k1,k2,k3,k4,k5⟩:=A R;simp only at g1 g2 k3 k4 k5 q1;have n:o<xs.length:=ω;rw[CF n] at f;obtain⟨p1,p2,p3⟩:=jL (bO.1 f);rw[l.len] at p1 p2;obtain⟨d1,d2⟩:=l.dec c row x (bO.1 m);have hl:=S.1;rw[bf l] at k3;have hmul:(o+1)*D.size c<=xs.length*D.size c:=Zbc _ n;rw[ZaV] at hmul;obtain⟨c1,c2,c3⟩:=sU (o1:=.arr c (dh xs o x) e false) (q:=Z.sh+o*Z.jM+j) (vs':=vs') N O rfl Q R k1 k2 (by grind) (k5 trivial) (λ_=>trivial) (λT w1 w2 w3=>⟨by rw[nj];exact g1,g2,λ_=>⟨T,V,w1,w2.trans k2,by rw[bf l,nj];exact k3,λq v r=>by
   have y:=(Zam.1 r).1;rw[bf l,nj] at y;have z:0<D.size c:=by
    grind
   have F:q / D.size c<xs.length:=Zc6 (by grind);have G:q % D.size c<D.size c:=Zc4 _ z;have t:q / D.size c*D.size c+q % D.size c=q:=by grind [Nat.div_add_mod]
   rw[<-t,gk l c _ _ _ (by rw[nj];exact F) G] at r;have hold:∀u,(D.bm c xs[q / D.size c])[q % D.size c]?=some u->∃K,C[Z.sh+q]?=some K/\VR M u K:=λu hu=>by
    have:=k4 q u (by grind [gk]);exact this
   rw[w3,g2];by_cases g:q / D.size c=o
   ·have k:(dh xs o x)[q / D.size c]'(by grind)=x:=by simp[dh,g]
    rw[k] at r;have J:q % D.size c<row.length:=ω;have I:=Zaf J;rw[g] at t;by_cases B:j<=q % D.size c/\q % D.size c<j+d.length
    ·rw[Zac ω,show Z.sh+q-(Z.sh+o*D.size c+j)=q % D.size c-j by omega];have p:=p3 (q % D.size c);rw[Zac B,I] at p;obtain⟨K,e1,e2⟩:=S.get p.symm;grind
    ·grind
   ·have k:(dh xs o x)[q / D.size c]'(by grind)=xs[q / D.size c]:=by
     grind [dh]
    rw[k] at r;rw[Zaa (by
     rintro⟨a1,a2⟩;apply g;have b1:o*D.size c<=q:=ω;have U:q<(o+1)*D.size c:=by grind
     have b3:=(Nat.le_div_iff_mul_le z).2 b1;have b4:=(Nat.div_lt_iff_lt_mul z).2 U;omega)]
    exact hold _ r,λ_=>k5 trivial⟩⟩) s.nx
  grind [run_storeCells_cells,uh]
theorem Ep (x:bb D) {l:Value} (h:(Lr P D s e v y).H s') (q:VR M v z) (A:VR M y l) (m:eP M s.h.get w):Qjl s M w ((Instr.storeAt e z l).run P w) s':=by
 obtain⟨k,hk,r⟩:=ak.1 h;rw[uj] at hk;obtain⟨hl,u⟩:=bH.1 r;obtain⟨n,c⟩:=bH.1 u;have a:=fG A;have hlen:l.cells.size=k:=by
  have:=a.1;grind [aQ,jY]
 cases q<;>simp only at c<;>(try exact c.elim)
 case ptr b o B g p=>
  obtain⟨d,t⟩:=xx (P:=P) c g m a n;refine⟨M,_,?_,t⟩;simp only[Instr.storeAt,Instr.sureAddr,Zzd,Zzc,Zzb,storeVar,da hk,hlen,ne_eq,Zce,Za0];exact d
 case mY b k2 i j B g p f hi=>
  obtain⟨d,t⟩:=Ia (P:=P) x c g p hi m a n;rw[f] at d t;refine⟨M,_,?_,t⟩;simp only[Instr.storeAt,Instr.sureAddr,Zzd,Zzc,Zzb,storeVar,da hk,hlen,ne_eq,Zce,Za0];exact d
end
end sx
end Go.Proofs.YtfkmlhnhkdbjeaaGreat
