/- StreamWell: a part of the proof. -/
import Derived.Orders
import Derived.Below
import Derived.Deep.AppendSrc
import Derived.Laws.Entries
import Derived.Laws.IdiomCopy
import Derived.IntWalk
import Derived.Lib.ConvBytes
import Derived.Laws.StructEq
import Derived.Laws.Tables
import Derived.Test.YtiiiphndmbabcaaGreatCA
set_option linter.all false
namespace Go.Proofs.YtiiiphndmbabcaaGreat
namespace sx
open Go
noncomputable section
def oB {α β:Type} (x:Option α) (f:α->Option β):Option β:=Option.rec (motive:=λ_=>Option β) none f x
def oI {β:Type} (b:Bool) (x:Option β):Option β:=Bool.rec (motive:=λ_=>Option β) none x b
def oE {β:Type} (b:Bool) (x y:Option β):Option β:=Bool.rec (motive:=λ_=>Option β) y x b
inductive C (α:Type) where
 | ret (a:α)
 | fail
 | ff (p:Prop) (x:C α)
 | split (b:Bool) (x y:C α)
 | want (b:Bool) (x:C α)
def aA {α β:Type} (x:C α) (f:α->C β):C β:=
 C.rec (motive:=λ_=>C β) f .fail (λp _ a=>.ff p a) (λb _ _ c d=>.split b c d) (λb _ a=>.want b a) x
def aQ {α β a:Type} (x:C (α×β)) (f:α->β->C a):C a:=aA x λp=>Prod.rec (motive:=λ_=>C a) f p
def bB {β:Type} (b:Bool) (x:C β):C β:=Bool.rec (motive:=λ_=>C β) .fail x b
def bE {β:Type} (b:Bool) (x y:C β):C β:=Bool.rec (motive:=λ_=>C β) y x b
def cN {α:Type} (x:Option α):C α:=Option.rec (motive:=λ_=>C α) .fail (λa=>.ret a) x
def ask {β:Type} (b:Bool) (x:C β):C β:=.want b x
def C.wp {α:Type} (x:C α) (K:α->Prop):Prop:=
 C.rec (motive:=λ_=>Prop) K False (λp _ a=>p/\a) (λb _ _ h1 c=>(b->h1)/\(b=false->c)) (λb _ a=>b/\a) x
def C.H {α:Type} (x:C α) (v:α):Prop:=
 C.rec (motive:=λ_=>Prop) (λa=>a=v) False (λp _ c=>p/\c) (λb _ _ h1 d=>(b/\h1)\/(b=false/\d)) (λb _ c=>b/\c) x
def knw {α:Type} (x:C α):C α:=
 C.rec (motive:=λ_=>C α) .ret .fail (λp _ a=>.ff p a) (λb _ _ h1 c=>bE b h1 c) (λb _ a=>bB b a) x
inductive T (α:Type) where
 | nil
 | node (v:Option α) (l r:T α)
def T.get {α:Type} (t:T α):Nat->Option α:=
 T.rec (motive:=λ_=>Nat->Option α) (λ_=>none)
  (λv _ _ gl gr k=>Nat.rec (motive:=λ_=>Option α) v
   (λk _=>Nat.rec (motive:=λ_=>Option α) (gl (Nat.div k (nat_lit 2))) (λ_ _=>gr (Nat.div k (nat_lit 2))) (Nat.mod k (nat_lit 2))) k) t
def T.mk1 {α:Type} (n:Nat):Nat->Option α->Option (T α):=
 Nat.rec (motive:=λ_=>Nat->Option α->Option (T α)) (λ_ _=>none)
  (λ_ b k a=>Nat.rec (motive:=λ_=>Option (T α)) (some (.node a .nil .nil))
   (λk _=>Nat.rec (motive:=λ_=>Option (T α)) (oB (b (Nat.div k (nat_lit 2)) a) λl=>some (.node none l .nil))
    (λ_ _=>oB (b (Nat.div k (nat_lit 2)) a) λr=>some (.node none .nil r)) (Nat.mod k (nat_lit 2))) k) n
def T.put {α:Type} (t:T α):Nat->Option α->Option (T α):=
 T.rec (motive:=λ_=>Nat->Option α->Option (T α)) (λk a=>T.mk1 (nat_lit 64) k a)
  (λv l r pl c k a=>Nat.rec (motive:=λ_=>Option (T α)) (some (.node a l r))
   (λk _=>Nat.rec (motive:=λ_=>Option (T α)) (oB (pl (Nat.div k (nat_lit 2)) a) λb=>some (.node v b r))
    (λ_ _=>oB (c (Nat.div k (nat_lit 2)) a) λd=>some (.node v l d)) (Nat.mod k (nat_lit 2))) k) t
def V8 (x y:Int):Bool:=match x with
 | .ofNat a=>match y with
  | .ofNat b=>Nat.beq a b
  | .negSucc _=>false
 | .negSucc a=>match y with
  | .ofNat _=>false
  | .negSucc b=>Nat.beq a b
def Wj (x y:Int):Bool:=match x with
 | .ofNat a=>match y with
  | .ofNat b=>Nat.ble (Nat.succ a) b
  | .negSucc _=>false
 | .negSucc a=>match y with
  | .ofNat _=>true
  | .negSucc b=>Nat.ble (Nat.succ b) a
def kIx:IntKind->Nat
 | .i8=>nat_lit 0 | .i16=>nat_lit 1 | .i32=>nat_lit 2 | .i64=>nat_lit 3 | .u8=>nat_lit 4 | .u16=>nat_lit 5 | .u32=>nat_lit 6 | .u64=>nat_lit 7
def AW (a b:IntKind):Bool:=Nat.beq (kIx a) (kIx b)
def kHi:IntKind->Nat
 | .i8=>nat_lit 127 | .i16=>nat_lit 32767 | .i32=>nat_lit 2147483647 | .i64=>nat_lit 9223372036854775807
 | .u8=>nat_lit 255 | .u16=>nat_lit 65535 | .u32=>nat_lit 4294967295 | .u64=>nat_lit 18446744073709551615
def kLo:IntKind->Nat
 | .i8=>nat_lit 128 | .i16=>nat_lit 32768 | .i32=>nat_lit 2147483648 | .i64=>nat_lit 9223372036854775808
 | .u8=>nat_lit 0 | .u16=>nat_lit 0 | .u32=>nat_lit 0 | .u64=>nat_lit 0
def ur:IntKind->Nat
 | .i8=>nat_lit 256 | .u8=>nat_lit 256 | .i16=>nat_lit 65536 | .u16=>nat_lit 65536 | .i32=>nat_lit 4294967296 | .u32=>nat_lit 4294967296
 | .i64=>nat_lit 18446744073709551616 | .u64=>nat_lit 18446744073709551616
def rp (k:IntKind) (n:Int):Int:=match n with
 | .ofNat m=>Bool.rec (motive:=λ_=>Int) (k.wrap (.ofNat m)) (.ofNat m) (Nat.ble m (kHi k))
 | .negSucc m=>Bool.rec (motive:=λ_=>Int) (k.wrap (.negSucc m)) (.negSucc m) (Nat.ble (Nat.succ m) (kLo k))
inductive CV where
 | num (k:IntKind) (n:Int)
 | lit (b:Bool)
def Fe (k:IntKind) (n:Int):Option CV:=match n with
 | .ofNat m=>Nat.rec (motive:=λ_=>Option CV) (some (.num k (.ofNat (nat_lit 0)))) (λm _=>some (.num k (.ofNat (Nat.succ m)))) m
 | .negSucc m=>Nat.rec (motive:=λ_=>Option CV) (some (.num k (.negSucc (nat_lit 0)))) (λm _=>some (.num k (.negSucc (Nat.succ m)))) m
def mkN (m:Nat):Option CV:=Nat.rec (motive:=λ_=>Option CV) (some (.num .i64 (.ofNat (nat_lit 0)))) (λm _=>some (.num .i64 (.ofNat (Nat.succ m)))) m
def Cv (k:IntKind) (n:Int):Nat:=match n with
 | .ofNat m=>Nat.mod m (ur k)
 | .negSucc m=>Nat.sub (Nat.sub (ur k) (nat_lit 1)) (Nat.mod m (ur k))
def LC (k:IntKind) (n:Nat):Option CV:=Fe k (rp k (.ofNat n))
def Wl (op:BinOp) (k:IntKind) (x y:Int):Option CV:=match op with
 | .add=>Fe k (rp k (Int.add x y))
 | .sub=>Fe k (rp k (Int.sub x y))
 | .mul=>Fe k (rp k (Int.mul x y))
 | .quo=>oE (V8 y (.ofNat (nat_lit 0))) none (Fe k (rp k (Int.tdiv x y)))
 | .rem=>oE (V8 y (.ofNat (nat_lit 0))) none (Fe k (Int.tmod x y))
 | .and=>LC k (Nat.land (Cv k x) (Cv k y))
 | .or=>LC k (Nat.lor (Cv k x) (Cv k y))
 | .xor=>LC k (Nat.xor (Cv k x) (Cv k y))
 | .eql=>some (.lit (V8 x y))
 | .neq=>some (.lit (Bool.not (V8 x y)))
 | .lss=>some (.lit (Wj x y))
 | .leq=>some (.lit (Bool.not (Wj y x)))
 | .gtr=>some (.lit (Wj y x))
 | .geq=>some (.lit (Bool.not (Wj x y)))
 | _=>none
def Oi (a b:Nat):Nat:=Bool.rec (motive:=λ_=>Nat) b a (Nat.ble a b)
def QeL (k:IntKind) (x:Int) (m:Nat):Option CV:=Fe k (rp k (Int.mul x (.ofNat (Nat.pow (nat_lit 2) (Oi m k.bits)))))
def QeM (k:IntKind) (x:Int) (m:Nat):Option CV:=match x with
 | .ofNat x=>Fe k (.ofNat (Nat.div x (Nat.pow (nat_lit 2) (Oi m k.bits))))
 | .negSucc _=>none
def AX (op:BinOp) (k a:IntKind) (x y:Int):Option CV:=match op with
 | .shl=>match y with
  | .ofNat m=>QeL k x m
  | .negSucc _=>none
 | .shr=>match y with
  | .ofNat m=>QeM k x m
  | .negSucc _=>none
 | op=>oI (AW k a) (Wl op k x y)
def gM {α:Type} (l:List α):Nat->Option α:=
 List.rec (motive:=λ_=>Nat->Option α) (λ_=>none) (λa _ b n=>Nat.rec (motive:=λ_=>Option α) (some a) (λn _=>b n) n) l
def kg {α:Type} (l:List α):Nat:=List.rec (motive:=λ_=>Nat) (nat_lit 0) (λ_ _ a=>Nat.succ a) l
def jB {α:Type} (f:α->Bool) (l:List α):Bool:=List.rec (motive:=λ_=>Bool) true (λa _ b=>Bool.rec (motive:=λ_=>Bool) false b (f a)) l
def AY {α:Type} (f:α->Bool) (l:List α):Bool:=List.rec (motive:=λ_=>Bool) false (λa _ b=>Bool.rec (motive:=λ_=>Bool) b true (f a)) l
def sH {α β:Type} (f:α->β) (l:List α):List β:=List.rec (motive:=λ_=>List β) [] (λa _ b=>f a::b) l
def nt {α:Type} (x y:List α):List α:=List.rec (motive:=λ_=>List α) y (λa _ b=>a::b) x
def tH {α:Type} (n:Nat):List α->Option (List α):=
 Nat.rec (motive:=λ_=>List α->Option (List α)) (λ_=>some [])
  (λ_ b l=>List.rec (motive:=λ_=>Option (List α)) none (λa x _=>oB (b x) λz=>some (a::z)) l) n
def oe {α:Type} (n:Nat):List α->List α:=
 Nat.rec (motive:=λ_=>List α->List α) (λl=>l) (λ_ a l=>List.rec (motive:=λ_=>List α) [] (λ_ x _=>a x) l) n
def IV {α:Type} (b:List α):List α->Option (List α):=
 List.rec (motive:=λ_=>List α->Option (List α)) (λcs=>some cs)
  (λv _ a cs=>List.rec (motive:=λ_=>Option (List α)) none (λ_ cs _=>oB (a cs) λz=>some (v::z)) cs) b
def Cw {α:Type} (n:Nat) (b:List α):List α->Option (List α):=
 Nat.rec (motive:=λ_=>List α->Option (List α)) (λcs=>IV b cs)
  (λ_ a cs=>List.rec (motive:=λ_=>Option (List α)) none (λc cs _=>oB (a cs) λz=>some (c::z)) cs) n
def LD {α:Type} (n:Nat) (z:List α):List α:=Nat.rec (motive:=λ_=>List α) [] (λ_ a=>nt z a) n
def aD (k:IntKind) (a b:Int):Int:=k.wrap (a+b)
def cQ (k:IntKind) (a b:Int):Int:=k.wrap (a-b)
def iY (k:IntKind) (a b:Int):Int:=k.wrap (a*b)
def Wm (k:IntKind) (a b:Int):Int:=k.wrap (Int.tdiv a b)
def QlN (a b:Int):Int:=Int.tmod a b
def qg (k:IntKind) (a b:Int):Int:=k.wrap (Int.ofNat (Nat.land (Cv k a) (Cv k b)))
def N0 (k:IntKind) (a b:Int):Int:=k.wrap (Int.ofNat (Nat.lor (Cv k a) (Cv k b)))
def QlO (k:IntKind) (a b:Int):Int:=k.wrap (Int.ofNat (Nat.xor (Cv k a) (Cv k b)))
def QlP (k:IntKind) (a:Int):Int:=k.wrap (-a)
def QlQ (k:IntKind) (a:Int):Int:=k.wrap (Int.ofNat (Nat.xor (ur k-1) (Cv k a)))
def vT (k:IntKind) (a:Int):Int:=k.wrap a
def sI (k:IntKind) (x y:Int):Int:=k.wrap (x*2 ^ (min y.toNat k.bits))
def QeN (k:IntKind) (x y:Int):Int:=x / 2 ^ (min y.toNat k.bits)
def aC (a b:Int):Bool:=decide (a=b)
def az (a b:Int):Bool:=decide (a<b)
def aI (a b:Int):Bool:=decide (a<=b)
def ga (a b:Int):Int:=if b<a then b else a
def imax (a b:Int):Int:=if a<b then b else a
def cw (b:Bool) (x y:Int):Int:=if b=true then x else y
def dS (s:List UInt8):Int:=s.length
def sat (s:List UInt8) (i:Int):Int:=(s.getD i.toNat 0).toNat
def yr (s t:List UInt8):List UInt8:=s++t
def seq (s t:List UInt8):Bool:=decide (s=t)
def slt (s t:List UInt8):Bool:=decide (s<t)
def kE (a b:Bool):Bool:=a==b
def gt {α:Type} (d:α) (xs:List α) (i:Nat):α:=xs.getD i d
def ah {α:Type} (xs:List α):Int:=xs.length
def dv {α:Type} (xs:List α) (n:Int):List α:=xs.take n.toNat
def vU {α:Type} (xs:List α) (n:Int):List α:=xs.drop n.toNat
def cO {α:Type} (xs:List α) (i:Nat) (x:α):List α:=xs.set i x
def bM {α:Type} (xs a:List α):List α:=xs++a
def mf {α:Type} (n:Int) (x:α):List α:=List.replicate n.toNat x
def rq {α:Type} (xs:List α) (o n:Int):List α:=(xs.drop o.toNat).take n.toNat
def Cx {α:Type} (xs:List α) (o n:Int) (a:List α):List α:=xs.take o.toNat++a.take n.toNat++xs.drop (o.toNat+(a.take n.toNat).length)
def BIG:Int:=9223372036854775807
def bF (n:Int) (bytes:Nat):Bool:=decide (n*bytes<=140737488355328)
def Cp (k:IntKind):Int:=match k with
 | .i8=>-128 | .i16=>-32768 | .i32=>-2147483648 | .i64=>-9223372036854775808 | .u8=>0 | .u16=>0 | .u32=>0 | .u64=>0
def sJ (k:IntKind):Int:=match k with
 | .i8=>127 | .i16=>32767 | .i32=>2147483647 | .i64=>9223372036854775807 | .u8=>255 | .u16=>65535 | .u32=>4294967295 | .u64=>18446744073709551615
def jv (k:IntKind) (n:Int):Bool:=aI (Cp k) n&&aI n (sJ k)
inductive AV (E:Nat->Type) where
 | bool (b:Bool)
 | lit (b:Bool)
 | int (k:IntKind) (n:Int)
 | num (k:IntKind) (n:Int)
 | str (s:List UInt8)
 | fC
 | ptr (b o:Nat)
 | kF (g o:Nat)
 | ma (b k i j:Nat)
 | nu (c:Nat) (x:E c) (j:Nat)
 | cW
 | own (b k:Nat) (n:Int)
 | pre (b k:Nat) (n:Int)
 | part (b k:Nat) (o n:Int)
 | grow (c:Nat) (xs:List (E c)) (b:Nat)
 | sub (b o n:Nat)
 | list (c:Nat) (xs:List (E c))
 | qh
 | map (r:Nat)
 | func (fn:Fn) (first captured:List (AV E))
 | nilFunc
 | iface (t:TypeId) (v:AV E)
 | nilIface
 | agg (cs:List (AV E))
 | tuple (vs:List (AV E))
structure Data where
 E:Nat->Type
 size:Nat->Nat
 ba:(c:Nat)->E c->List (AV E)
 dec:(c:Nat)->List (AV E)->Option (E c)
 Wn:(c:Nat)->E c
 bc:Nat
 ym:List (E bc)->List UInt8
 ofB:List UInt8->List (E bc)
 ng:Nat
 gw:World->Prop
 gst:∀w w':World,(∀c,c<ng->w'.heap[c]?=w.heap[c]?)->gw w->gw w'
inductive AO (E:Nat->Type) where
 | cells (cs:List (AV E)) (elem:TypeId) (ro:Bool)
 | arr (c:Nat) (xs:List (E c)) (elem:TypeId) (ro:Bool)
 | tok (c:Nat) (elem:TypeId)
section
variable {E:Nat->Type}
def undef:AV E:=.tuple []
def QlR (s:ByteArray):AV E:=.str s.data.toList
def Oj (v:Value):Option (AV E):=match v with
 | .bool b=>some (.lit b)
 | .int k n=>oI (Bool.and (Bool.not (Wj n (Cp k))) (Bool.not (Wj (sJ k) n))) (some (.num k n))
 | .string s=>oI (Nat.ble (kg s.data.toList) (nat_lit 9223372036854775807)) (some (QlR s))
 | .nilFunc=>some .nilFunc
 | .nilIface=>some .nilIface
 | .pointer a=>match a with
  | none=>some .fC
  | _=>none
 | .map a=>match a with
  | none=>some .qh
  | _=>none
 | .slice a l c=>match a with
  | none=>oI (Bool.and (Nat.beq l (nat_lit 0)) (Nat.beq c (nat_lit 0))) (some .cW)
  | _=>none
 | .func f x y=>match f with
  | .func g=>oI (Bool.and (Nat.beq (kg x.toList) (nat_lit 0)) (Nat.beq (kg y.toList) (nat_lit 0))) (some (.func (.func g) [] []))
  | _=>none
 | _=>none
def Wo (l:List Value):Option (List (AV E)):=List.rec (motive:=λ_=>Option (List (AV E))) (some []) (λv _ b=>oB (Oj v) λa=>oB b λr=>some (a::r)) l
def ofV (v:Value):Option (AV E):=match v with
 | .agg cs=>oB (Wo cs.toList) λl=>some (.agg l)
 | .tuple cs=>oB (Wo cs.toList) λl=>some (.tuple l)
 | v=>Oj v
def vV (v:CV):AV E:=match v with
 | .num k n=>.num k n
 | .lit b=>.lit b
def cR (v:AV E):List (AV E):=match v with
 | .agg cs=>cs
 | v=>[v]
def one (v:AV E):Bool:=match v with
 | .agg _=>false
 | .tuple _=>false
 | _=>true
def da (v:AV E):C (IntKind×Int):=match v with
 | .int k n=>.ret (k,n)
 | .num k n=>.ret (k,n)
 | _=>.fail
def asN (v:AV E):C Nat:=match v with
 | .num _ n=>match n with
  | .ofNat m=>.ret m
  | .negSucc _=>.fail
 | _=>.fail
def AZ (v:AV E):C (Bool×Bool):=match v with
 | .lit b=>.ret (b,true)
 | .bool b=>.ret (b,false)
 | _=>.fail
def asAgg (v:AV E):C (List (AV E)):=match v with
 | .agg cs=>.ret cs
 | _=>.fail
def Ol (v:AV E):C (List (AV E)):=match v with
 | .tuple cs=>.ret cs
 | _=>.fail
def gR (v:AV E):C (List UInt8):=match v with
 | .str s=>.ret s
 | _=>.fail
def gK (c a:Nat) (xs:List (E a)):C (List (E c)):=Decidable.rec (motive:=λ_=>C (List (E c))) (λ_=>.fail) (λh=>.ret (Eq.rec (motive:=λc _=>List (E c)) xs h)) (Nat.decEq a c)
def IW (c a:Nat) (x:E a):C (E c):=Decidable.rec (motive:=λ_=>C (E c)) (λ_=>.fail) (λh=>.ret (Eq.rec (motive:=λc _=>E c) x h)) (Nat.decEq a c)
end
structure St (E:Nat->Type) where
 h:T (AO E)
 nx:Nat
section
variable {E:Nat->Type}
def St.new (s:St E) (o:AO E):C (Nat×St E):=
 Nat.rec (motive:=λ_=>C (Nat×St E)) (aA (cN (s.h.put (nat_lit 0) (some o))) λh=>.ret (nat_lit 0,⟨h,nat_lit 1⟩)) (λn _=>aA (cN (s.h.put (Nat.succ n) (some o))) λh=>.ret (Nat.succ n,⟨h,Nat.succ (Nat.succ n)⟩)) s.nx
def St.set (s:St E) (b:Nat) (o:Option (AO E)):C (St E):=aA (cN (s.h.put b o)) λh=>.ret ⟨h,s.nx⟩
def pA (s:St E) (b:Nat):C (List (AV E)):=aA (cN (s.h.get b)) λo=>match o with
 | .cells cs _ _=>.ret cs
 | _=>.fail
def Qb7 (s:St E) (b:Nat):C (List (AV E)×TypeId):=aA (cN (s.h.get b)) λo=>match o with
 | .cells cs e ro=>Bool.rec (motive:=λ_=>C (List (AV E)×TypeId)) (.ret (cs,e)) .fail ro
 | _=>.fail
structure Ar (E:Nat->Type) where
 c:Nat
 xs:List (E c)
 e:TypeId
 ro:Bool
def kG (s:St E) (b:Nat):C (Ar E):=aA (cN (s.h.get b)) λo=>match o with
 | .arr c xs e ro=>.ret ⟨c,xs,e,ro⟩
 | _=>.fail
def Ϲ (s:St E) (b:Nat):C (Nat×TypeId):=aA (cN (s.h.get b)) λo=>match o with
 | .tok c e=>.ret (c,e)
 | _=>.fail
end
def tI (d:TypeDesc):C TypeId:=match d with
 | .slice e=>.ret e
 | _=>.fail
def IX (d:TypeDesc):C (List Field):=match d with
 | .struct a=>.ret a.toList
 | _=>.fail
def Qb8 (d:TypeDesc):Bool:=match d with
 | .string=>true
 | _=>false
def Ϻ (d:TypeDesc):Bool:=match d with
 | .slice _=>true
 | _=>false
def Qb9 (d:TypeDesc):Bool:=match d with
 | .struct _=>true
 | .array _ _=>true
 | _=>false
def dU8 (d:TypeDesc):Bool:=match d with
 | .int k=>match k with
  | .u8=>true
  | _=>false
 | _=>false
section
variable (P:Program) (D:Data) (cd:TypeId->Option Nat)
def uu (t:TypeId):Option Nat:=Option.rec (motive:=λ_=>Option Nat) none (λi=>some i.size) (P.info? t)
def Wp (t:TypeId):Option Nat:=Option.rec (motive:=λ_=>Option Nat) none (λi=>some i.bytes) (P.info? t)
def uv (t:TypeId):C TypeDesc:=cN (P.underlying t)
def sz (t:TypeId):C Nat:=cN (uu P t)
def zeroOf (t:TypeId):C (AV D.E):=aA (cN (P.info? t)) λi=>aA (cN i.zero) λz=>cN (ofV z)
def ev (φ:T (AV D.E)) (x:Operand):C (AV D.E):=match x with
 | .tmp t=>cN (φ.get t)
 | .const v=>cN (ofV v)
 | .global g=>bB (Nat.ble (Nat.succ g) P.globals.size) (.ret (.kF g (nat_lit 0)))
 | .func f=>.ret (.func (.func f) [] [])
def Om (φ:T (AV D.E)) (l:List Operand):C (List (AV D.E)):=
 List.rec (motive:=λ_=>C (List (AV D.E))) (.ret []) (λx _ a=>aA (ev P D φ x) λv=>aA a λb=>.ret (v::b)) l
def j4 (t:TypeId) (cs:List (AV D.E)) (o:Nat):C (AV D.E):=aA (uv P t) λd=>
 bE (Qb9 d) (aA (sz P t) λk=>aA (cN (tH k (oe o cs))) λl=>.ret (.agg l)) (cN (gM cs o))
def qB (e:TypeId):C Nat:=aA (cN (cd e)) λc=>aA (sz P e) λk=>bB (Nat.beq k (D.size c)) (bB (Nat.ble (nat_lit 1) k) (.ret c))
def rowAt (a:Ar D.E) (i:Nat):List (AV D.E):=D.ba a.c (gt (D.Wn a.c) a.xs i)
def Cy (s:St D.E) (t:TypeId) (p:AV D.E):C (AV D.E):=match p with
 | .ptr b o=>aA (pA s b) λcs=>j4 P D t cs o
 | .ma b _ i j=>aA (kG s b) λa=>j4 P D t (rowAt D a i) j
 | .nu c x j=>j4 P D t (D.ba c x) j
 | _=>.fail
def sK (s:St D.E) (b o:Nat) (a:List (AV D.E)):C (St D.E):=aQ (Qb7 s b) λcs e=>aA (cN (Cw o a cs)) λcs=>s.set b (some (.cells cs e false))
def uw (c:Nat) (row:List (AV D.E)):C (D.E c):=cN (D.dec c row)
def On (s:St D.E) (b i j:Nat) (d:List (AV D.E)):C (St D.E):=aA (kG s b) λa=>match a with
 | ⟨c,xs,e,ro⟩=>Bool.rec (motive:=λ_=>C (St D.E)) (aA (cN (Cw j d (D.ba c (gt (D.Wn c) xs i)))) λrow=>aA (uw D c row) λx=>s.set b (some (.arr c (cO xs i x) e false))) .fail ro
def IY (s:St D.E) (t:TypeId) (p x:AV D.E):C (St D.E):=aA (sz P t) λk=>bB (Nat.beq (kg (cR x)) k) (bB (jB one (cR x)) (match p with
 | .ptr b o=>sK D s b o (cR x)
 | .ma b _ i j=>On D s b i j (cR x)
 | _=>.fail))
def Wq (op:BinOp) (k:IntKind) (x y:Int):C (AV D.E):=match op with
 | .add=>.ret (.int k (aD k x y))
 | .sub=>.ret (.int k (cQ k x y))
 | .mul=>.ret (.int k (iY k x y))
 | .quo=>ask (Bool.not (aC y (.ofNat (nat_lit 0)))) (.ret (.int k (Wm k x y)))
 | .rem=>ask (Bool.not (aC y (.ofNat (nat_lit 0)))) (.ret (.int k (QlN x y)))
 | .and=>.ret (.int k (qg k x y))
 | .or=>.ret (.int k (N0 k x y))
 | .xor=>.ret (.int k (QlO k x y))
 | .eql=>.ret (.bool (aC x y))
 | .neq=>.ret (.bool (Bool.not (aC x y)))
 | .lss=>.ret (.bool (az x y))
 | .leq=>.ret (.bool (aI x y))
 | .gtr=>.ret (.bool (az y x))
 | .geq=>.ret (.bool (aI y x))
 | _=>.fail
def Wr (op:BinOp) (k a:IntKind) (x y:Int):C (AV D.E):=match op with
 | .shl=>ask (aI (.ofNat (nat_lit 0)) y) (.ret (.int k (sI k x y)))
 | .shr=>ask (aI (.ofNat (nat_lit 0)) y) (ask (aI (.ofNat (nat_lit 0)) x) (.ret (.int k (QeN k x y))))
 | op=>bB (AW k a) (Wq D op k x y)
def A0 (op:BinOp) (x y:List UInt8):C (AV D.E):=match op with
 | .add=>ask (aI (dS (yr x y)) BIG) (.ret (.str (yr x y)))
 | .eql=>.ret (.bool (seq x y))
 | .neq=>.ret (.bool (Bool.not (seq x y)))
 | .lss=>.ret (.bool (slt x y))
 | .leq=>.ret (.bool (Bool.not (slt y x)))
 | .gtr=>.ret (.bool (slt y x))
 | .geq=>.ret (.bool (Bool.not (slt x y)))
 | _=>.fail
def A1 (v:AV D.E):C Bool:=match v with
 | .fC=>.ret true
 | .ptr _ _=>.ret false
 | .kF _ _=>.ret false
 | .ma _ _ _ _=>.ret false
 | .nu _ _ _=>.ret false
 | .cW=>.ret true
 | .qh=>.ret true
 | .map _=>.ret false
 | .nilFunc=>.ret true
 | .func _ _ _=>.ret false
 | .nilIface=>.ret true
 | .iface _ _=>.ret false
 | .list _ xs=>ask (az (.ofNat (nat_lit 0)) (ah xs)) (.ret false)
 | _=>.fail
def Ff (v:AV D.E):Nat:=match v with
 | .fC=>nat_lit 1 | .ptr _ _=>nat_lit 1 | .kF _ _=>nat_lit 1 | .ma _ _ _ _=>nat_lit 1 | .nu _ _ _=>nat_lit 1
 | .cW=>nat_lit 2 | .list _ _=>nat_lit 2 | .qh=>nat_lit 3 | .map _=>nat_lit 3 | .nilFunc=>nat_lit 4 | .func _ _ _=>nat_lit 4 | .nilIface=>nat_lit 5 | .iface _ _=>nat_lit 5
 | _=>nat_lit 0
def ϻ (d:TypeDesc):Nat:=match d with
 | .pointer _=>nat_lit 1
 | .slice _=>nat_lit 2
 | .map _ _=>nat_lit 3
 | .func _ _ _=>nat_lit 4
 | .interface _=>nat_lit 5
 | _=>nat_lit 6
def Qaa (d:TypeDesc) (x y:AV D.E):C (Bool×Bool):=bB (Nat.beq (Ff D x) (ϻ d)) (bB (Nat.beq (Ff D y) (ϻ d)) (aA (A1 D x) λa=>aA (A1 D y) λb=>bE (Bool.or a b) (.ret (Bool.and a b,true)) .fail))
def IZ (x y:AV D.E):C (Bool×Bool):=match x with
 | .num k a=>match y with
  | .num c b=>bB (AW k c) (.ret (V8 a b,true))
  | .int c b=>bB (AW k c) (.ret (aC a b,false))
  | _=>.fail
 | .int k a=>aQ (da y) λc b=>bB (AW k c) (.ret (aC a b,false))
 | _=>.fail
def Fh (d:TypeDesc) (x y:AV D.E):C (Bool×Bool):=match d with
 | .bool=>aQ (AZ x) λa p=>aQ (AZ y) λb q=>.ret (kE a b,Bool.and p q)
 | .int _=>IZ D x y
 | .string=>aA (gR x) λa=>aA (gR y) λb=>.ret (seq a b,false)
 | d=>Qaa D d x y
def Cz (a b:Bool×Bool):Bool×Bool:=match a with
 | (x,p)=>match b with
  | (y,q)=>bif p then(bif x then(y,q) else(false,true)) else(bif q then(bif y then(x,p) else(false,true)) else(Bool.and x y,false))
def uY (b:TypeId->AV D.E->AV D.E->C (Bool×Bool)) (e:TypeId) (k:Nat) (xs d:List (AV D.E)) (n:Nat):Nat->C (Bool×Bool):=
 Nat.rec (motive:=λ_=>Nat->C (Bool×Bool)) (λ_=>.ret (true,true))
  (λ_ a i=>aA (j4 P D e xs (Nat.mul i k)) λx=>aA (j4 P D e d (Nat.mul i k)) λy=>aA (b e x y) λr=>aA (a (Nat.succ i)) λc=>.ret (Cz r c)) n
def eqFields (ih:TypeId->AV D.E->AV D.E->C (Bool×Bool)) (xs ys:List (AV D.E)) (fs:List Field):C (Bool×Bool):=
 List.rec (motive:=λ_=>C (Bool×Bool)) (.ret (true,true))
  (λf _ ihf=>bE (decide (f.name= "_")) .fail (aA (j4 P D f.type xs f.offset) λx=>aA (j4 P D f.type ys f.offset) λy=>aA (ih f.type x y) λr=>aA ihf λr'=>.ret (Cz r r'))) fs
def eqD (b:TypeId->AV D.E->AV D.E->C (Bool×Bool)) (t:TypeId) (d:TypeDesc) (x y:AV D.E):C (Bool×Bool):=match d with
 | .struct c=>aA (asAgg x) λxs=>aA (asAgg y) λa=>bE (P.stoodInHeld t) .fail (eqFields P D b xs a c.toList)
 | .array len e=>aA (asAgg x) λxs=>aA (asAgg y) λa=>aA (sz P e) λk=>uY P D b e k xs a len (nat_lit 0)
 | d=>Fh D d x y
def N5 (n:Nat):TypeId->AV D.E->AV D.E->C (Bool×Bool):=
 Nat.rec (motive:=λ_=>TypeId->AV D.E->AV D.E->C (Bool×Bool)) (λ_ _ _=>.fail) (λ_ a t x y=>aA (uv P t) λd=>eqD P D a t d x y) n
def Oo (t:TypeId) (x y:AV D.E):C (Bool×Bool):=match x with
 | .agg _=>bE (P.eqGuardType P.depth t) .fail (N5 P D (nat_lit 4) t x y)
 | .nilIface=>match y with
  | .nilIface=>.fail
  | _=>N5 P D (nat_lit 4) t x y
 | _=>N5 P D (nat_lit 4) t x y
def mkT (b c:Bool):AV D.E:=bif c then .lit b else .bool b
def Oq (op:BinOp) (t:TypeId) (x y:AV D.E):C (AV D.E):=match op with
 | .eql=>aQ (Oo P D t x y) λr c=>.ret (mkT D r c)
 | .neq=>aQ (Oo P D t x y) λr c=>.ret (mkT D (Bool.not r) c)
 | _=>.fail
def QeS (op:BinOp) (t:TypeId) (x y:AV D.E):C (AV D.E):=match x with
 | .num k a=>match y with
  | .num c b=>aA (cN (AX op k c a b)) λv=>.ret (vV v)
  | .int c b=>Wr D op k c a b
  | _=>.fail
 | .int k a=>aQ (da y) λc b=>Wr D op k c a b
 | .str a=>aA (gR y) λb=>A0 D op a b
 | x=>Oq P D op t x y
def isConst (x:Operand):Bool:=match x with
 | .const _=>true
 | _=>false
def Qca (v:AV D.E):Bool:=match v with
 | .nilIface=>true
 | _=>false
def QeT (d:TypeDesc):Bool:=match d with
 | .interface _=>true
 | _=>false
def nnA (op:BinOp):C (AV D.E):=match op with
 | .eql=>.ret (.lit true)
 | .neq=>.ret (.lit false)
 | _=>.fail
def QeU (op:BinOp) (t:TypeId) (a b:Operand) (x y:AV D.E):C (AV D.E):=bE (Bool.and (Bool.or (isConst a) (isConst b)) (Bool.and (Qca D x) (Qca D y))) (aA (uv P t) λd=>bB (QeT d) (nnA D op)) (QeS P D op t x y)
def unA (op:UnOp) (x:AV D.E):C (AV D.E):=match op with
 | .neg=>match x with
  | .num k n=>aA (cN (Fe k (rp k (Int.neg n)))) λv=>.ret (vV v)
  | .int k n=>.ret (.int k (QlP k n))
  | _=>.fail
 | .xor=>match x with
  | .num k n=>aA (cN (LC k (Nat.xor (Nat.sub (ur k) (nat_lit 1)) (Cv k n)))) λv=>.ret (vV v)
  | .int k n=>.ret (.int k (QlQ k n))
  | _=>.fail
 | .not=>aQ (AZ x) λb c=>.ret (mkT D (Bool.not b) c)
 | _=>.fail
def QeV (c:Nat) (cs:List (AV D.E)) (n:Nat):Nat->C (List (D.E c)):=
 Nat.rec (motive:=λ_=>Nat->C (List (D.E c))) (λ_=>.ret []) (λ_ a o=>aA (cN (gM cs o)) λv=>aA (cN (D.dec c [v])) λx=>aA (a (Nat.succ o)) λr=>.ret (x::r)) n
def aW (s:St D.E) (c:Nat) (x:AV D.E):C (List (D.E c)):=match x with
 | .list d xs=>gK c d xs
 | .grow d xs _=>gK c d xs
 | .own b _ _=>aA (kG s b) λa=>match a with
  | ⟨d,xs,_,_⟩=>gK c d xs
 | .pre b _ n=>aA (kG s b) λa=>match a with
  | ⟨d,xs,_,_⟩=>gK c d (dv xs n)
 | .part b _ o n=>aA (kG s b) λa=>match a with
  | ⟨d,xs,_,_⟩=>gK c d (rq xs o n)
 | .cW=>.ret []
 | .str l=>gK c D.bc (D.ofB l)
 | .sub b o n=>bB (Nat.beq (D.size c) (nat_lit 1)) (aA (pA s b) λcs=>QeV D c cs n o)
 | _=>.fail
def Ot (x:AV D.E):C (AV D.E):=match x with
 | .list _ xs=>.ret (.int .i64 (ah xs))
 | .grow _ xs _=>.ret (.int .i64 (ah xs))
 | .own _ _ n=>.ret (.int .i64 n)
 | .pre _ _ n=>.ret (.int .i64 n)
 | .part _ _ _ n=>.ret (.int .i64 n)
 | .cW=>.ret (.num .i64 (.ofNat (nat_lit 0)))
 | .sub _ _ n=>aA (cN (mkN n)) λv=>.ret (vV v)
 | _=>.fail
def QeW (t:TypeId) (x:AV D.E):C (AV D.E):=aA (uv P t) λd=>match d with
 | .string=>aA (gR x) λl=>.ret (.int .i64 (dS l))
 | .slice _=>Ot D x
 | .array n _=>aA (cN (mkN n)) λv=>bB (Nat.ble n (nat_lit 1099511627776)) (.ret (vV v))
 | _=>.fail
def Ou (s:St D.E) (c:Nat) (xs:List (D.E c)) (e:TypeId):C (AV D.E×St D.E):=aQ (s.new (.arr c xs e false)) λb s=>.ret (.own b (D.size c) (ah xs),s)
def A2 (s:St D.E) (c:Nat) (xs:List (D.E c)) (e:TypeId):C (AV D.E×St D.E):=aQ (s.new (.tok c e)) λb s=>.ret (.grow c xs b,s)
def newRow (mu:Bool) (s:St D.E) (c:Nat) (xs:List (D.E c)) (e:TypeId):C (AV D.E×St D.E):=bif mu then Ou D s c xs e else A2 D s c xs e
def Fi (d:Nat) (s:St D.E) (c:Nat) (e:TypeId) (b:Nat) (cut:List (D.E c)->List (D.E c)) (f:List (D.E c)):C (AV D.E×St D.E):=aA (kG s b) λa=>match a with
 | ⟨g,xs,h,ro⟩=>Bool.rec (motive:=λ_=>C (AV D.E×St D.E)) (bB (Nat.beq h e) (aA (gK c g xs) λxs=>ask (bF (ah (bM (cut xs) f)) d) (aA (s.set b none) λs=>aQ (s.new (.arr c (bM (cut xs) f) e false)) λb s=>.ret (.own b (D.size c) (ah (bM (cut xs) f)),s)))) .fail ro
def CA (mu:Bool) (a:Nat) (s:St D.E) (c:Nat) (e:TypeId) (d:AV D.E) (f:List (D.E c)):C (AV D.E×St D.E):=match d with
 | .cW=>ask (bF (ah f) a) (newRow D mu s c f e)
 | .grow g xs b=>aQ (Ϲ s b) λc2 h=>bB (Nat.beq c2 c) (bB (Nat.beq h e) (aA (gK c g xs) λxs=>ask (bF (ah (bM xs f)) a) (aA (s.set b none) λs=>A2 D s c (bM xs f) e)))
 | .own b _ _=>Fi D a s c e b (λxs=>xs) f
 | .pre b _ n=>Fi D a s c e b (λxs=>dv xs n) f
 | _=>.fail
def I0 (mu:Bool) (s:St D.E) (t u:TypeId) (d x:AV D.E):C (AV D.E×St D.E):=aA (uv P t) λb=>aA (tI b) λe=>aA (uv P u) λa=>bB (Bool.or (Ϻ a) (Qb8 a))
 (aA (qB P D cd e) λc=>aA (cN (Wp P e)) λbytes=>bB (Nat.ble bytes (nat_lit 65536)) (bB (Nat.ble (nat_lit 1) bytes) (aA (zeroOf P D e) λz=>bB (Nat.beq (kg (cR z)) (D.size c)) (aA (aW D s c x) λf=>CA D mu bytes s c e d f))))
def I9 (l:List UInt8) (cs:List (AV D.E)):Nat->C (List (AV D.E)):=
 List.rec (motive:=λ_=>Nat->C (List (AV D.E))) (λ_=>.ret []) (λv _ a i=>aQ (da v) λk n=>bB (AW k .u8) (aA (a (Nat.succ i)) λr=>.ret (.int .u8 (cw (az (.ofNat i) (dS l)) (sat l (.ofNat i)) n)::r))) cs
def A3 (s:St D.E) (b:Nat) (o n:Int) (x:AV D.E) (c:Nat):C (AV D.E×St D.E):=aA (kG s b) λa=>match a with
 | ⟨d,xs,f,ro⟩=>Bool.rec (motive:=λ_=>C (AV D.E×St D.E)) (aA (aW D s d x) λe=>bB (Nat.beq c d) (aA (s.set b (some (.arr d (Cx xs o n e) f false))) λs=>.ret (.int .i64 (ga n (ah e)),s))) .fail ro
def Qab (s:St D.E) (t:TypeId) (d x:AV D.E):C (AV D.E×St D.E):=aA (uv P t) λh=>aA (tI h) λe=>aA (qB P D cd e) λc=>match d with
 | .own b _ n=>A3 D s b (.ofNat (nat_lit 0)) n x c
 | .pre b _ n=>A3 D s b (.ofNat (nat_lit 0)) n x c
 | .part b _ o n=>A3 D s b o n x c
 | .sub b o n=>bB (Nat.beq c D.bc) (bB (Nat.ble n (nat_lit 1000)) (match x with
  | .sub g i a=>aA (pA s g) λcs=>aA (cN (tH (Oi a n) (oe i cs))) λl=>bB (jB one l) (aA (sK D s b o l) λs=>aA (cN (mkN (Oi a n))) λv=>.ret (vV v,s))
  | x=>aA (aW D s D.bc x) λf=>aA (pA s b) λcs=>aA (cN (tH n (oe o cs))) λl=>aA (I9 D (D.ym f) l (nat_lit 0)) λl=>aA (sK D s b o l) λs=>.ret (.int .i64 (ga (.ofNat n) (dS (D.ym f))),s)))
 | _=>.fail
def evO (φ:T (AV D.E)) (x:Option Operand):C (Option (AV D.E)):=
 Option.rec (motive:=λ_=>C (Option (AV D.E))) (.ret none) (λx=>aA (ev P D φ x) λv=>.ret (some v)) x
def zI:Int:=.ofNat (nat_lit 0)
def QeX {α:Type} (xs:List α) (hi:Option (AV D.E)):C (List α):=Option.rec (motive:=λ_=>C (List α)) (.ret xs) (λv=>aQ (da v) λ_ h=>ask (aI zI h) (ask (aI h (ah xs)) (.ret (dv xs h)))) hi
def QeY {α:Type} (xs:List α) (lo:Option (AV D.E)):C (List α):=Option.rec (motive:=λ_=>C (List α)) (.ret xs) (λv=>aQ (da v) λ_ l=>ask (aI zI l) (ask (aI l (ah xs)) (.ret (vU xs l)))) lo
def QeZ {α:Type} (xs:List α) (hi mx:Option (AV D.E)):C Unit:=Option.rec (motive:=λ_=>C Unit) (.ret ()) (λv=>aQ (da v) λ_ m=>aA (cN hi) λhi=>aQ (da hi) λ_ h=>ask (aI h m) (ask (aI m (ah xs)) (.ret ()))) mx
def LF {α:Type} (xs:List α) (lo hi mx:Option (AV D.E)):C (List α):=aA (QeZ D xs hi mx) λ_=>aA (QeX D xs hi) λa=>QeY D a lo
def Ov (lo:Option (AV D.E)):Bool:=Option.rec (motive:=λ_=>Bool) true (λv=>match v with
 | .num _ n=>V8 n zI
 | _=>false) lo
def oF (x:Option (AV D.E)) (d hi:Nat):C Nat:=Option.rec (motive:=λ_=>C Nat) (.ret d) (λv=>aA (asN v) λm=>bB (Nat.ble m hi) (.ret m)) x
def iB (x:Option (AV D.E)) (d hi:Int):C Int:=Option.rec (motive:=λ_=>C Int) (.ret d) (λv=>aQ (da v) λ_ m=>ask (aI zI m) (ask (aI m hi) (.ret m))) x
def yW (b k:Nat) (l h:Int) (z:Bool):AV D.E:=bif z then .pre b k h else .part b k l (h-l)
def Fj (b k:Nat) (o l h:Int) (z:Bool):AV D.E:=bif z then .part b k o h else .part b k (o+l) (h-l)
def Ow (t:TypeId) (x:AV D.E) (lo hi mx:Option (AV D.E)):C (AV D.E):=aA (uv P t) λd=>match d with
 | .string=>bB (Option.isNone mx) (aA (gR x) λl=>aA (LF D l lo hi mx) λr=>.ret (.str r))
 | .slice e=>aA (sz P e) λk=>match x with
  | .list c xs=>bB (Nat.beq k (D.size c)) (aA (LF D xs lo hi mx) λr=>.ret (.list c r))
  | .grow c xs _=>bB (Nat.beq k (D.size c)) (aA (LF D xs lo hi mx) λr=>.ret (.list c r))
  | .cW=>aA (oF D mx (nat_lit 0) (nat_lit 0)) λ_=>aA (oF D hi (nat_lit 0) (nat_lit 0)) λ_=>aA (oF D lo (nat_lit 0) (nat_lit 0)) λ_=>bE (Bool.and (Option.isSome mx) (Option.isNone hi)) .fail (.ret .cW)
  | .own b a n=>bB (Bool.and (Nat.beq a k) (Option.isNone mx)) (aA (iB D hi n n) λh=>aA (iB D lo zI h) λl=>.ret (yW D b k l h (Ov D lo)))
  | .pre b a n=>bB (Bool.and (Nat.beq a k) (Option.isNone mx)) (aA (iB D hi n n) λh=>aA (iB D lo zI h) λl=>.ret (yW D b k l h (Ov D lo)))
  | .part b a o n=>bB (Bool.and (Nat.beq a k) (Option.isNone mx)) (aA (iB D hi n n) λh=>aA (iB D lo zI h) λl=>.ret (Fj D b k o l h (Ov D lo)))
  | .sub b o n=>aA (oF D hi n n) λh=>aA (oF D lo (nat_lit 0) h) λl=>bB (Bool.and (Nat.beq k (nat_lit 1)) (Option.isNone mx)) (.ret (.sub b (Nat.add o l) (Nat.sub h l)))
  | _=>.fail
 | .array n e=>match x with
  | .ptr b o=>aA (sz P e) λk=>bB (Nat.beq k (nat_lit 1)) (bB (Bool.and (Nat.ble n (nat_lit 1099511627776)) (Option.isNone mx)) (aA (oF D hi n n) λh=>aA (oF D lo (nat_lit 0) h) λl=>.ret (.sub b (Nat.add o l) (Nat.sub h l))))
  | _=>.fail
 | _=>.fail
def vW (aF:Nat->C (Nat×Nat)) (φ:T (AV D.E)) (b:List (Nat×Operand)):List (AV D.E)->C (List (AV D.E)):=
 List.rec (motive:=λ_=>List (AV D.E)->C (List (AV D.E))) (λcs=>.ret cs)
  (λp _ a cs=>aQ (.ret p) λi x=>aQ (aF i) λoff size=>aA (ev P D φ x) λv=>bB (Nat.beq (kg (cR v)) size) (aA (cN (Cw off (cR v) cs)) λcs=>a cs)) b
def Ox (a:List Field) (i:Nat):C (Nat×Nat):=aA (cN (gM a i)) λf=>aA (sz P f.type) λk=>.ret (f.offset,k)
def Qac (a:List Field):Bool:=jB (λf=>Option.rec (motive:=λ_=>Bool) false (λ_=>true) (uu P f.type)) a
def I' (φ:T (AV D.E)) (t:TypeId) (parts:List (Nat×Operand)):C (AV D.E):=aA (zeroOf P D t) λz=>aA (uv P t) λd=>match d with
 | .struct a=>bB (Qac P a.toList) (aA (vW P D (Ox P a.toList) φ parts (cR z)) λcs=>.ret (.agg cs))
 | .array _ e=>aA (sz P e) λk=>aA (vW P D (λi=>.ret (Nat.mul i k,k)) φ parts (cR z)) λcs=>.ret (.agg cs)
 | _=>.fail
def Fl (c k:Nat) (n:Nat):List (AV D.E)->C (List (D.E c)):=
 Nat.rec (motive:=λ_=>List (AV D.E)->C (List (D.E c))) (λ_=>.ret [])
  (λ_ a cs=>aA (cN (tH k cs)) λrow=>aA (uw D c row) λx=>aA (a (oe k cs)) λr=>.ret (x::r)) n
def yX (mu:Bool) (s:St D.E) (φ:T (AV D.E)) (t:TypeId) (len:Nat) (parts:List (Nat×Operand)):C (AV D.E×St D.E):=aA (uv P t) λd=>aA (tI d) λe=>aA (qB P D cd e) λc=>aA (zeroOf P D e) λz=>
 bB (Nat.beq (kg (cR z)) (D.size c)) (bB (Nat.ble (Nat.mul len (D.size c)) (nat_lit 100000))
  (aA (vW P D (λi=>.ret (Nat.mul i (D.size c),D.size c)) φ parts (LD len (cR z))) λcs=>bB (jB one cs) (aA (Fl D c (D.size c) len cs) λxs=>newRow D mu s c xs e)))
def Qe0 (v:AV D.E):Bool:=match v with
 | .num _ n=>V8 n zI
 | _=>false
def CB (mu:Bool) (s:St D.E) (t:TypeId) (l c:AV D.E):C (AV D.E×St D.E):=aA (uv P t) λd=>aA (tI d) λe=>aQ (da l) λb n=>bB (AW b .i64) (aQ (da c) λf m=>bB (AW f .i64) (aA (qB P D cd e) λc=>aA (cN (Wp P e)) λa=>aA (zeroOf P D e) λz=>
 bB (Nat.beq (kg (cR z)) (D.size c)) (bB (Nat.ble a (nat_lit 65536)) (aA (uw D c (cR z)) λx=>ask (aI zI n) (ask (aI n m) (ask (bF m a)
  (bE (Bool.and (Qe0 D l) (Bool.not mu)) (A2 D s c [] e) (Ou D s c (mf n x) e))))))))
def Oy (x:AV D.E):C (AV D.E):=match x with
 | .ptr _ _=>.ret x
 | .kF _ _=>.ret x
 | .ma _ _ _ _=>.ret x
 | .nu _ _ _=>.ret x
 | .func f _ _=>match f with
  | .func _=>.ret x
  | _=>.fail
 | _=>.fail
def uZ (d:TypeDesc) (n:Int) (closed:Bool):C (AV D.E):=match d with
 | .int k=>bif closed then(aA (cN (Fe k (rp k n))) λv=>.ret (vV v)) else .ret (.int k (vT k n))
 | .string=>.ret (.str (Utf8.encode n).data.toList)
 | _=>.fail
def Fp (s:St D.E) (ds a:TypeDesc) (x:AV D.E):C (AV D.E×St D.E):=aA (tI ds) λe=>match a with
  | .string=>aA (uv P e) λb=>bB (dU8 b) (aA (qB P D cd e) λc=>bB (Nat.beq c D.bc) (aA (aW D s D.bc x) λxs=>.ret (.str (D.ym xs),s)))
  | _=>.fail
def Ws (s:St D.E) (src dst:TypeId) (ds c:TypeDesc) (b k:Nat) (n:Int):C (AV D.E×St D.E):=aA (tI ds) λ_=>aA (tI c) λe=>bB (Nat.beq src dst) (bB (Nat.beq k (nat_lit 1)) (aA (uv P e) λd=>bB (dU8 d) (aA (kG s b) λa=>bE a.ro .fail (ask (az (.ofNat (nat_lit 0)) n) (.ret (.own b k n,s))))))
def Oz (mu:Bool) (s:St D.E) (src dst:TypeId) (x:AV D.E):C (AV D.E×St D.E):=aA (uv P src) λds=>aA (uv P dst) λa=>match x with
 | .int _ n=>aA (uZ D a n false) λv=>.ret (v,s)
 | .num _ n=>aA (uZ D a n true) λv=>.ret (v,s)
 | .str b=>bB (Qb8 ds) (match a with
  | .string=>.ret (.str b,s)
  | .slice e=>aA (uv P e) λd=>bB (dU8 d) (aA (qB P D cd e) λc=>aA (gK c D.bc (D.ofB b)) λxs=>newRow D mu s c xs e)
  | _=>.fail)
 | .own b k n=>bE (Ϻ a) (Ws P D s src dst ds a b k n) (Fp P D cd s ds a (.own b k n))
 | x=>Fp P D cd s ds a x
def I_ (t:TypeId) (x:AV D.E):C (AV D.E):=aA (uv P t) λd=>match d with
 | .interface _=>.fail
 | _=>.ret (.iface t x)
def tJ (t:TypeId) (x:AV D.E) (f:Nat):C (AV D.E):=aA (uv P t) λd=>aA (IX d) λa=>aA (cN (gM a f)) λfd=>aA (sz P fd.type) λk=>bB (Nat.ble (nat_lit 1) k) (match x with
 | .ptr b o=>.ret (.ptr b (Nat.add o fd.offset))
 | .kF b o=>.ret (.kF b (Nat.add o fd.offset))
 | .ma b n i j=>.ret (.ma b n i (Nat.add j fd.offset))
 | .nu c y j=>.ret (.nu c y (Nat.add j fd.offset))
 | _=>.fail)
def Ja (t:TypeId) (x:AV D.E) (f:Nat):C (AV D.E):=aA (uv P t) λd=>aA (IX d) λa=>aA (asAgg x) λcs=>aA (cN (gM a f)) λfd=>j4 P D fd.type cs fd.offset
def yY (t:TypeId) (x i:AV D.E):C (AV D.E):=aA (uv P t) λd=>match d with
 | .slice e=>aA (sz P e) λk=>aQ (da i) λ_ i=>match x with
  | .list c xs=>bB (Nat.beq k (D.size c)) (ask (aI zI i) (ask (az i (ah xs)) (.ret (.nu c (gt (D.Wn c) xs i.toNat) (nat_lit 0)))))
  | .grow c xs _=>bB (Nat.beq k (D.size c)) (ask (aI zI i) (ask (az i (ah xs)) (.ret (.nu c (gt (D.Wn c) xs i.toNat) (nat_lit 0)))))
  | .own b a n=>bB (Nat.beq a k) <| ask (aI zI i) (ask (az i n) (.ret (.ma b k i.toNat (nat_lit 0))))
  | .pre b a n=>bB (Nat.beq a k) <| ask (aI zI i) (ask (az i n) (.ret (.ma b k i.toNat (nat_lit 0))))
  | .part b a o n=>bB (Nat.beq a k) <| ask (aI zI i) (ask (az i n) (.ret (.ma b k (o+i).toNat (nat_lit 0))))
  | _=>.fail
 | .array len e=>aA (sz P e) λk=>bB (Nat.ble (nat_lit 1) k) (aA (asN i) λi=>bB (Nat.ble (Nat.succ i) len) (match x with
  | .ptr b o=>.ret (.ptr b (Nat.add o (Nat.mul i k)))
  | .ma b n m j=>.ret (.ma b n m (Nat.add j (Nat.mul i k)))
  | .nu c y j=>.ret (.nu c y (Nat.add j (Nat.mul i k)))
  | _=>.fail))
 | _=>.fail
def Jb (t:TypeId) (x i:AV D.E):C (AV D.E):=aA (uv P t) λd=>match d with
 | .string=>aQ (da i) λ_ i=>aA (gR x) λl=>ask (aI zI i) (ask (az i (dS l)) (.ret (.int .u8 (sat l i))))
 | .array len e=>aA (sz P e) λk=>aA (asN i) λi=>aA (asAgg x) λcs=>bB (Nat.ble (Nat.succ i) len) (j4 P D e cs (Nat.mul i k))
 | _=>.fail
def yZ (x:AV D.E) (i:Nat):C (AV D.E):=aA (Ol x) λl=>cN (gM l i)
def u0 (s:St D.E) (b:Nat) (o n:Int) (k:Nat) (z:List (AV D.E)):C (AV D.E×St D.E):=aA (kG s b) λa=>match a with
 | ⟨c,xs,d,ro⟩=>bB (Nat.beq (kg z) (D.size c)) (bB (Nat.beq k (D.size c)) (aA (uw D c z) λy=>Bool.rec (motive:=λ_=>C (AV D.E×St D.E)) (aA (s.set b (some (.arr c (Cx xs o n (mf n y)) d false))) λs=>.ret (undef,s)) .fail ro))
def Jc (s:St D.E) (t:TypeId) (x:AV D.E):C (AV D.E×St D.E):=aA (uv P t) λd=>aA (tI d) λe=>aA (zeroOf P D e) λz=>aA (sz P e) λk=>match x with
 | .own b _ n=>u0 D s b zI n k (cR z)
 | .pre b _ n=>u0 D s b zI n k (cR z)
 | .part b _ o n=>u0 D s b o n k (cR z)
 | .cW=>.ret (undef,s)
 | _=>.fail
def oG (mn:Bool) (e:List (AV D.E)):AV D.E->C (AV D.E):=
 List.rec (motive:=λ_=>AV D.E->C (AV D.E)) (λv=>.ret v) (λy _ c x=>aQ (da x) λk a=>aQ (da y) λd b=>bB (AW k d) (c (.int k (bif mn then ga a b else imax a b)))) e
def iC (s:St D.E) (x:C (AV D.E)):C (AV D.E×St D.E):=aA x λv=>.ret (v,s)
def Qe1 (x:C (St D.E)):C (AV D.E×St D.E):=aA x λs=>.ret (undef,s)
def settle (v:AV D.E):C (AV D.E):=match v with
 | .bool b=>.split b (.ret (.lit true)) (.ret (.lit false))
 | v=>.ret v
def vX (v:AV D.E):C Bool:=match v with
 | .lit b=>.ret b
 | .bool b=>.split b (.ret true) (.ret false)
 | _=>.fail
def Qcb (c a b:AV D.E):C (AV D.E):=aA (vX D c) λc=>bE c (.ret a) (.ret b)
def OA (s:St D.E) (e:TypeId) (cs:List (AV D.E)):C (AV D.E×St D.E):=bB (jB one cs) (aQ (s.new (.cells cs e false)) λb s=>.ret (.ptr b (nat_lit 0),s))
end
abbrev tK (E:Nat->Type):=FuncId->List (AV E)->St E->C (AV E×St E)
def V9 {E:Nat->Type}:tK E:=λ_ _ _=>.fail
section
variable (P:Program) (D:Data) (cd:TypeId->Option Nat)
def kt (mu:Bool) (b:Builtin) (s:St D.E) (c:List TypeId) (a:List (AV D.E)):C (AV D.E×St D.E):=match b with
 | .append=>aA (cN (gM c (nat_lit 0))) λt=>aA (cN (gM c (nat_lit 1))) λu=>aA (cN (gM a (nat_lit 0))) λd=>aA (cN (gM a (nat_lit 1))) λx=>I0 P D cd mu s t u d x
 | .copy=>aA (cN (gM c (nat_lit 0))) λt=>aA (cN (gM a (nat_lit 0))) λd=>aA (cN (gM a (nat_lit 1))) λx=>Qab P D cd s t d x
 | .len=>aA (cN (gM c (nat_lit 0))) λt=>aA (cN (gM a (nat_lit 0))) λx=>iC D s (QeW P D t x)
 | .min=>aA (cN (gM a (nat_lit 0))) λx=>iC D s (oG D true (oe (nat_lit 1) a) x)
 | .max=>aA (cN (gM a (nat_lit 0))) λx=>iC D s (oG D false (oe (nat_lit 1) a) x)
 | .clear=>aA (cN (gM c (nat_lit 0))) λt=>aA (cN (gM a (nat_lit 0))) λx=>Jc P D s t x
 | _=>.fail
def Qe2 (v:AV D.E):C (FuncId×List (AV D.E)×List (AV D.E)):=match v with
 | .func fn first captured=>match fn with
  | .func f=>.ret (f,first,captured)
  | _=>.fail
 | _=>.fail
def Qad (φ:T (AV D.E)) (x:Operand) (c:Call):C (FuncId×List (AV D.E)):=aA (ev P D φ x) λv=>aQ (Qe2 D v) λf p=>aA (Om P D φ c.args.toList) λargs=>match p with
 | (a,cs)=>.ret (f,nt a (nt args cs))
def Qe3 (mu:Bool) (c:Callee) (ex:tK D.E) (s:St D.E) (φ:T (AV D.E)) (cl:Call):C (AV D.E×St D.E):=match c with
 | .value x=>aQ (Qad P D φ x cl) λf args=>ex f args s
 | .builtin b=>aA (Om P D φ cl.args.toList) λa=>kt P D cd mu b s cl.argTypes.toList a
 | _=>.fail
def OB (mu:Bool) (op:Op) (ex:tK D.E) (s:St D.E) (φ:T (AV D.E)):C (AV D.E×St D.E):=match op with
 | .move x=>iC D s (ev P D φ x)
 | .assign x=>iC D s (ev P D φ x)
 | .pick c a b=>aA (ev P D φ c) λc=>aA (ev P D φ a) λa=>aA (ev P D φ b) λb=>iC D s (Qcb D c a b)
 | .alloc e=>aA (zeroOf P D e) λz=>OA D s e (cR z)
 | .box e x=>aA (ev P D φ x) λv=>OA D s e (cR v)
 | .build t parts=>iC D s (I' P D φ t parts.toList)
 | .buildSlice t len parts=>yX P D cd mu s φ t len parts.toList
 | .load t a=>aA (ev P D φ a) λv=>iC D s (Cy P D s t v)
 | .store t a x=>aA (ev P D φ a) λa=>aA (ev P D φ x) λx=>Qe1 D (IY P D s t a x)
 | .nilCheck x=>aA (ev P D φ x) λv=>iC D s (Oy D v)
 | .binOp op t d g _=>aA (ev P D φ d) λx=>aA (ev P D φ g) λy=>iC D s (QeU P D op t d g x y)
 | .unOp op _ x=>aA (ev P D φ x) λx=>iC D s (unA D op x)
 | .convert a b x=>aA (ev P D φ x) λx=>Oz P D cd mu s a b x
 | .makeInterface t x=>aA (ev P D φ x) λx=>iC D s (I_ P D t x)
 | .makeFunc fn first captured=>aA (Om P D φ first.toList) λf=>aA (Om P D φ captured.toList) λc=>.ret (.func fn f c,s)
 | .makeSlice t l c=>aA (ev P D φ l) λl=>aA (ev P D φ c) λc=>CB P D cd mu s t l c
 | .slice t x lo hi mx=>aA (ev P D φ x) λx=>aA (evO P D φ lo) λlo=>aA (evO P D φ hi) λhi=>aA (evO P D φ mx) λmx=>iC D s (Ow P D t x lo hi mx)
 | .fieldAddr t x f=>aA (ev P D φ x) λx=>iC D s (tJ P D t x f)
 | .field t x f=>aA (ev P D φ x) λx=>iC D s (Ja P D t x f)
 | .indexAddr t x i=>aA (ev P D φ x) λx=>aA (ev P D φ i) λi=>iC D s (yY P D t x i)
 | .index t x i=>aA (ev P D φ x) λx=>aA (ev P D φ i) λi=>iC D s (Jb P D t x i)
 | .extract t i=>aA (ev P D φ t) λx=>iC D s (yZ D x i)
 | .call c=>Qe3 P D cd mu c.callee ex s φ c
 | _=>.fail
end
def Qcc (d:TypeDesc):Option TypeId:=match d with
 | .slice e=>some e
 | _=>none
def Qe4 (d:TypeDesc):Option (TypeId×TypeId):=match d with
 | .map k v=>some (k,v)
 | _=>none
section
variable (P:Program)
def Qe5 (b:Builtin) (a:List TypeId):Nat:=match b with
 | .len=>match a with
  | t::_=>Option.rec (motive:=λ_=>Nat) (nat_lit 3) (λd=>Option.rec (motive:=λ_=>Nat) (nat_lit 1) (λ_=>nat_lit 2) (Qe4 d)) (P.underlying t)
  | []=>nat_lit 3
 | .min=>nat_lit 1
 | .max=>nat_lit 1
 | _=>nat_lit 3
def iD (o:Oper):Nat:=match o.op with
 | .move _=>nat_lit 1
 | .assign _=>nat_lit 1
 | .pick _ _ _=>nat_lit 1
 | .alloc _=>nat_lit 1
 | .box _ _=>nat_lit 1
 | .build _ _=>nat_lit 1
 | .buildSlice _ _ _=>nat_lit 1
 | .nilCheck _=>nat_lit 1
 | .binOp _ _ _ _ _=>nat_lit 1
 | .unOp _ _ _=>nat_lit 1
 | .makeInterface _ _=>nat_lit 1
 | .makeFunc _ _ _=>nat_lit 1
 | .makeMap _ _=>nat_lit 1
 | .makeSlice _ _ _=>nat_lit 1
 | .slice _ _ _ _ _=>nat_lit 1
 | .fieldAddr _ _ _=>nat_lit 1
 | .field _ _ _=>nat_lit 1
 | .indexAddr _ _ _=>nat_lit 1
 | .index _ _ _=>nat_lit 1
 | .extract _ _=>nat_lit 1
 | .load _ _=>nat_lit 2
 | .lookup _ _ _ _=>nat_lit 2
 | .convert src _ _=>Option.rec (motive:=λ_=>Nat) (nat_lit 3) (λd=>Option.rec (motive:=λ_=>Nat) (nat_lit 1) (λ_=>nat_lit 2) (Qcc d)) (P.underlying src)
 | .call c=>match c.callee with
  | .builtin b=>Qe5 P b c.argTypes.toList
  | _=>nat_lit 3
 | _=>nat_lit 3
def vY (ms:List Nat) (es:List Edge):Nat->Option Nat:=
 List.rec (motive:=λ_=>Nat->Option Nat) (λm=>some m)
  (λe _ a m=>oE (Region.binds .any e) (oB (gM ms e.on) λk=>a (Nat.lor (Nat.lor m (Nat.pow (nat_lit 2) e.on)) k)) (a m)) es
def Jd (os:List Oper):List Nat->Option (List Nat):=
 List.rec (motive:=λ_=>List Nat->Option (List Nat)) (λms=>some ms)
  (λo _ a ms=>oB (vY ms o.after.toList (nat_lit 0)) λm=>a (nt ms [m])) os
def j5 (ms:List Nat) (i j:Nat):Bool:=Option.rec (motive:=λ_=>Bool) false (λm=>Nat.beq (Nat.mod (Nat.div m (Nat.pow (nat_lit 2) i)) (nat_lit 2)) (nat_lit 1)) (gM ms j)
def A4 (d:Nat) (x:Operand):Bool:=match x with
 | .tmp t=>Nat.beq t d
 | _=>false
def A5 (ops:List Oper) (o:Oper):Option Tmp:=oB o.guard λp=>oB (gM ops p.1) λx=>x.dst
def reads (ops:List Oper) (o:Oper) (d:Nat):Bool:=Bool.or (AY (A4 d) o.op.operands.toList) (Option.rec (motive:=λ_=>Bool) false (λt=>Nat.beq t d) (A5 ops o))
def ordered (ms:List Nat) (i j:Nat):Bool:=Bool.or (j5 ms i j) (j5 ms j i)
def OC (ops:List Oper) (ms:List Nat) (i j:Nat) (a b:Oper):Bool:=
 Bool.or (Nat.beq i j) (Bool.and (Option.rec (motive:=λ_=>Bool) true (λd=>Bool.and (Bool.or (ordered ms i j) (Bool.not (reads ops a d))) (Option.rec (motive:=λ_=>Bool) true (λe=>Bool.not (Nat.beq d e)) a.dst)) b.dst)
  (Bool.or (Bool.not (Bool.and (Nat.beq (iD P a) (nat_lit 3)) (Nat.beq (iD P b) (nat_lit 3)))) (ordered ms i j)))
def Je {α:Type} (f:Nat->α->Bool) (l:List α):Nat->Bool:=
 List.rec (motive:=λ_=>Nat->Bool) (λ_=>true) (λa _ b i=>Bool.rec (motive:=λ_=>Bool) false (b (Nat.succ i)) (f i a)) l
def OD (o:Oper):Bool:=match o.op with
 | .select _ _=>false
 | _=>true
def A6 (ms:List Nat) (i:Nat) (o:Oper):Bool:=Option.rec (motive:=λ_=>Bool) true (λp=>j5 ms p.1 i) o.guard
def CC (ops:List Oper):Option (List Nat):=oB (Jd ops []) λms=>
 oI (Je (λi a=>Bool.and (Bool.and (OD a) (A6 ms i a)) (Je (λj b=>OC P ops ms i j a b) ops (nat_lit 0))) ops (nat_lit 0)) (some ms)
end
section
variable {E:Nat->Type}
def eU:C Unit:=.ret ()
def vZ (b:Bool):C Unit:=bB b eU
def Wt (a b:Fn):Bool:=match a with
 | .func f=>match b with
  | .func g=>Nat.beq f g
  | _=>false
 | _=>false
def v8 (x y:AV E):C Unit:=match x with
 | .bool a=>aQ (AZ y) λb _=>.ff (a=b) eU
 | .lit a=>match y with
  | .lit b=>vZ (Bool.rec (motive:=λ_=>Bool) (Bool.not b) b a)
  | .bool b=>.ff (a=b) eU
  | _=>.fail
 | .int k a=>aQ (da y) λf b=>bB (AW k f) (.ff (a=b) eU)
 | .num k a=>match y with
  | .num f b=>bB (AW k f) (vZ (V8 a b))
  | .int f b=>bB (AW k f) (.ff (a=b) eU)
  | _=>.fail
 | .str a=>aA (gR y) λb=>.ff (a=b) eU
 | .fC=>match y with
  | .fC=>eU
  | _=>.fail
 | .ptr b o=>match y with
  | .ptr d h=>vZ (Bool.and (Nat.beq b d) (Nat.beq o h))
  | _=>.fail
 | .kF b o=>match y with
  | .kF d h=>vZ (Bool.and (Nat.beq b d) (Nat.beq o h))
  | _=>.fail
 | .ma b k i j=>match y with
  | .ma d f q m=>bB (Bool.and (Nat.beq b d) (Bool.and (Nat.beq k f) (Nat.beq j m))) (.ff (i=q) eU)
  | _=>.fail
 | .nu c x j=>match y with
  | .nu l p m=>bB (Nat.beq j m) (aA (IW c l p) λp=>.ff (x=p) eU)
  | _=>.fail
 | .cW=>match y with
  | .cW=>eU
  | _=>.fail
 | .own b k n=>match y with
  | .own d f g=>bB (Bool.and (Nat.beq b d) (Nat.beq k f)) (.ff (n=g) eU)
  | _=>.fail
 | .pre b k n=>match y with
  | .pre d f g=>bB (Bool.and (Nat.beq b d) (Nat.beq k f)) (.ff (n=g) eU)
  | _=>.fail
 | .part b k o n=>match y with
  | .part d f h g=>bB (Bool.and (Nat.beq b d) (Nat.beq k f)) (.ff (o=h) (.ff (n=g) eU))
  | _=>.fail
 | .grow c xs b=>match y with
  | .grow l e d=>bB (Nat.beq b d) (aA (gK c l e) λe=>.ff (xs=e) eU)
  | _=>.fail
 | .sub b o n=>match y with
  | .sub d h g=>vZ (Bool.and (Nat.beq b d) (Bool.and (Nat.beq o h) (Nat.beq n g)))
  | _=>.fail
 | .list c xs=>match y with
  | .list l e=>aA (gK c l e) λe=>.ff (xs=e) eU
  | _=>.fail
 | .qh=>match y with
  | .qh=>eU
  | _=>.fail
 | .map a=>match y with
  | .map b=>vZ (Nat.beq a b)
  | _=>.fail
 | .nilFunc=>match y with
  | .nilFunc=>eU
  | _=>.fail
 | .nilIface=>match y with
  | .nilIface=>eU
  | _=>.fail
 | _=>.fail
def y0 (xs:List (AV E)):List (AV E)->C Unit:=
 List.rec (motive:=λ_=>List (AV E)->C Unit) (λa=>List.rec (motive:=λ_=>C Unit) eU (λ_ _ _=>.fail) a)
  (λx _ b a=>List.rec (motive:=λ_=>C Unit) .fail (λy a _=>aA (v8 x y) λ_=>b a) a) xs
def OE (x y:AV E):C Unit:=match x with
 | .agg xs=>match y with
  | .agg a=>y0 xs a
  | _=>.fail
 | .tuple xs=>match y with
  | .tuple a=>y0 xs a
  | _=>.fail
 | .func f xs a=>match y with
  | .func g b c=>bB (Wt f g) (aA (y0 xs b) λ_=>y0 a c)
  | _=>.fail
 | x=>v8 x y
end
section
variable (P:Program) (D:Data) (cd:TypeId->Option Nat)
def guards (ops:List Oper) (i:Nat):Bool:=AY (λo=>Option.rec (motive:=λ_=>Bool) false (λp=>Nat.beq p.1 i) o.guard) ops
def yA (ops:List Oper) (φ:T (AV D.E)) (j:Nat):Option (AV D.E):=oB (gM ops j) λo=>oB o.dst λt=>φ.get t
def Jf (w:Bool) (v:AV D.E):C Bool:=match v with
 | .lit b=>.ret (Bool.rec (motive:=λ_=>Bool) (Bool.not w) w b)
 | .bool b=>.split b (.ret w) (.ret (Bool.not w))
 | _=>.ret false
def mg (ops:List Oper) (φ:T (AV D.E)) (o:Oper):C Bool:=match o.guard with
 | none=>.ret true
 | some p=>match p with
  | (j,w)=>aA (cN (yA D ops φ j)) λv=>Jf D w v
def v_ (N:Nat) (φ:T (AV D.E)) (d:Option Tmp) (v:AV D.E):C (T (AV D.E)):=
 Option.rec (motive:=λ_=>C (T (AV D.E))) (.ret φ) (λt=>bB (Nat.ble (Nat.succ t) N) (cN (φ.put t (some v)))) d
def Fq:Bool:=Option.isSome (cd (nat_lit 4000000000))
def clo (v:AV D.E):AV D.E:=match v with
 | .bool b=>.lit (Bool.rec (motive:=λ_=>Bool) false true b)
 | .int k n=>Option.rec (motive:=λ_=>AV D.E) (.num k n) (λc=>vV c) (Fe k n)
 | .num k n=>Option.rec (motive:=λ_=>AV D.E) (.num k n) (λc=>vV c) (Fe k n)
 | v=>v
def Jg (mu:Bool) (g:Bool) (op:Op) (ex:tK D.E) (s:St D.E) (φ:T (AV D.E)):C (AV D.E×St D.E):=
 bif Fq cd then aQ (knw (OB P D cd mu op ex s φ)) (λv s=>.ret (clo D v,s)) else bif g then aQ (OB P D cd mu op ex s φ) (λv s=>aA (settle D v) λv=>.ret (v,s)) else OB P D cd mu op ex s φ
def qC (mu:Bool) (ex:tK D.E) (ops:List Oper) (N:Nat) (l:List Oper):Nat->St D.E->T (AV D.E)->C (St D.E×T (AV D.E)):=
 List.rec (motive:=λ_=>Nat->St D.E->T (AV D.E)->C (St D.E×T (AV D.E))) (λ_ s φ=>.ret (s,φ))
  (λo _ a i s φ=>aA (mg D ops φ o) λb=>bE b
   (aQ (Jg P D cd mu (guards ops i) o.op ex s φ) λv c=>aA (v_ D N φ o.dst v) λφ=>bB (Nat.ble s.nx c.nx) (a (Nat.succ i) c φ))
   (aA (v_ D N φ o.dst undef) λφ=>a (Nat.succ i) s φ)) l
structure Rc where
 o:Oper
 g:Bool
 cls:Nat
 v:AV D.E
 φ:T (AV D.E)
 lo:Nat
 hi:Nat
 pc:T (AO D.E)
def piece (r:Rc D):Bool:=Bool.and (Nat.beq r.cls (nat_lit 1)) (Nat.ble (Nat.succ r.lo) r.hi)
def kH (rj:Nat->Bool) (rs:List (Rc D)):Nat->T (AO D.E)->C (T (AO D.E)):=
 List.rec (motive:=λ_=>Nat->T (AO D.E)->C (T (AO D.E))) (λ_ h=>.ret h)
  (λr _ a j h=>bE (Bool.and (piece D r) (rj j)) (aA (cN (r.pc.get r.lo)) λo=>aA (cN (h.put r.lo (some o))) λh=>a (Nat.succ j) h) (a (Nat.succ j) h)) rs
def loadAt (g:Bool) (φ:T (AV D.E)) (o:Oper) (rj:Nat->Bool) (rs:List (Rc D)) (h:T (AO D.E)):C (AV D.E):=
 aA (kH D rj rs (nat_lit 0) h) λk=>aQ (Jg P D cd false g o.op V9 ⟨k,nat_lit 0⟩ φ) λv _=>.ret v
def OF (x:Operand):Option Tmp:=match x with
 | .tmp t=>some t
 | _=>none
def y1 (φ:T (AV D.E)) (c:List (Option Tmp)):T (AV D.E)->C (T (AV D.E)):=
 List.rec (motive:=λ_=>T (AV D.E)->C (T (AV D.E))) (λa=>.ret a)
  (λx _ b a=>Option.rec (motive:=λ_=>C (T (AV D.E))) (b a) (λt=>Option.rec (motive:=λ_=>C (T (AV D.E))) (b a) (λv=>aA (cN (a.put t (some v))) λa=>b a) (φ.get t)) x) c
def pB (ops:List Oper) (o:Oper):List (Option Tmp):=A5 ops o::sH OF o.op.operands.toList
structure Ds where
 φ:T (AV D.E)
 h:T (AO D.E)
 hs:List (T (AO D.E))
 nx:Nat
 last:Nat
 es:List Nat
 rs:List (Rc D)
def cg (ms:List Nat) (last j:Nat):Bool:=Nat.rec (motive:=λ_=>Bool) true (λe _=>Bool.not (j5 ms j e)) last
def OG (mu:Bool) (N:Nat) (g:Bool) (o:Oper) (a:T (AV D.E)) (d:Ds D):C (Ds D):=aQ (Jg P D cd mu g o.op V9 ⟨.nil,d.nx⟩ a) λv s=>aA (v_ D N d.φ o.dst v) λφ=>bB (Bool.and (Nat.ble d.nx s.nx) (Nat.ble s.nx (Nat.succ d.nx)))
 (.ret ⟨φ,d.h,d.hs,s.nx,d.last,d.es,nt d.rs [⟨o,g,nat_lit 1,v,a,d.nx,s.nx,s.h⟩]⟩)
def OH (N:Nat) (ms:List Nat) (i:Nat) (g:Bool) (o:Oper) (a:T (AV D.E)) (d:Ds D):C (Ds D):=aA (loadAt P D cd g a o (λj=>Bool.and (j5 ms j i) (cg ms d.last j)) d.rs d.h) λv=>aA (v_ D N d.φ o.dst v) λφ=>
 .ret ⟨φ,d.h,d.hs,d.nx,d.last,d.es,nt d.rs [⟨o,g,nat_lit 2,v,a,d.nx,d.nx,.nil⟩]⟩
def Wu (mu:Bool) (ex:tK D.E) (N:Nat) (ms:List Nat) (i:Nat) (g:Bool) (o:Oper) (a:T (AV D.E)) (d:Ds D):C (Ds D):=bB (Nat.beq (iD P o) (nat_lit 3)) (aA (kH D (λj=>Bool.and (j5 ms j i) (cg ms d.last j)) d.rs (nat_lit 0) d.h) λk=>
 aQ (Jg P D cd mu g o.op ex ⟨k,d.nx⟩ a) λv s=>aA (v_ D N d.φ o.dst v) λφ=>bB (Nat.ble d.nx s.nx) (.ret ⟨φ,s.h,nt d.hs [s.h],s.nx,Nat.succ i,nt d.es [i],nt d.rs [⟨o,g,nat_lit 3,v,a,d.nx,s.nx,.nil⟩]⟩))
def OI (N:Nat) (g:Bool) (o:Oper) (a:T (AV D.E)) (d:Ds D):C (Ds D):=aA (v_ D N d.φ o.dst undef) λφ=>.ret ⟨φ,d.h,d.hs,d.nx,d.last,d.es,nt d.rs [⟨o,g,nat_lit 0,undef,a,d.nx,d.nx,.nil⟩]⟩
def A7 (mu:Bool) (ex:tK D.E) (ops:List Oper) (N:Nat) (ms:List Nat) (i:Nat) (o:Oper) (d:Ds D):C (Ds D):=aA (y1 D d.φ (pB ops o) .nil) λa=>aA (mg D ops a o) λb=>bE b
 (bE (Nat.beq (iD P o) (nat_lit 1)) (OG P D cd mu N (guards ops i) o a d) (bE (Nat.beq (iD P o) (nat_lit 2)) (OH P D cd N ms i (guards ops i) o a d) (Wu P D cd mu ex N ms i (guards ops i) o a d)))
 (OI D N (guards ops i) o a d)
def A8 (mu:Bool) (ex:tK D.E) (ops:List Oper) (N:Nat) (ms:List Nat) (l:List Oper):Nat->Ds D->C (Ds D):=
 List.rec (motive:=λ_=>Nat->Ds D->C (Ds D)) (λ_ d=>.ret d) (λo _ a i d=>aA (A7 P D cd mu ex ops N ms i o d) λd=>a (Nat.succ i) d) l
def A9 (ms:List Nat) (rs:List (Rc D)) (i last:Nat) (r:Rc D) (h:T (AO D.E)):C Unit:=aA (loadAt P D cd r.g r.φ r.o (λj=>Bool.and (j5 ms j i) (cg ms last j)) rs h) λv=>OE v r.v
def oH (ms:List Nat) (i last:Nat) (es:List Nat):Bool:=Bool.and (cg ms last i) (List.rec (motive:=λ_=>Bool) true (λe _ _=>Bool.not (j5 ms e i)) es)
def kh (ms:List Nat) (rs:List (Rc D)) (i:Nat) (r:Rc D) (hs:List (T (AO D.E))):Nat->List Nat->C Unit:=
 List.rec (motive:=λ_=>Nat->List Nat->C Unit) (λ_ _=>eU)
  (λh _ a last es=>aA (bE (oH ms i last es) (A9 P D cd ms rs i last r h) eU) λ_=>List.rec (motive:=λ_=>C Unit) eU (λe es _=>a (Nat.succ e) es) es) hs
def Ft (ms:List Nat) (all:List (Rc D)) (hs:List (T (AO D.E))) (es:List Nat) (l:List (Rc D)):Nat->C Unit:=
 List.rec (motive:=λ_=>Nat->C Unit) (λ_=>eU) (λr _ a i=>aA (bE (Nat.beq r.cls (nat_lit 2)) (kh P D cd ms all i r hs (nat_lit 0) es) eU) λ_=>a (Nat.succ i)) l
def CD (mu:Bool) (ex:tK D.E) (ops:List Oper) (N:Nat) (s:St D.E) (φ:T (AV D.E)):C (St D.E×T (AV D.E)):=aA (cN (CC P ops)) λms=>aA (A8 P D cd mu ex ops N ms ops (nat_lit 0) ⟨φ,s.h,[s.h],s.nx,nat_lit 0,[],[]⟩) λd=>
 aA (Ft P D cd ms d.rs d.hs d.es d.rs (nat_lit 0)) λ_=>
  aA (kH D (cg ms d.last) d.rs (nat_lit 0) d.h) λh=>.ret (⟨h,d.nx⟩,d.φ)
end
abbrev Ren:=List (Nat×Nat)
def dT (r:Ren) (t:Nat):Option Nat:=List.rec (motive:=λ_=>Option Nat) none (λp _ a=>bif Nat.beq p.1 t then some p.2 else a) r
def yu (r:Ren) (b:Nat):Bool:=AY (λp=>Nat.beq p.2 b) r
def cy.{u} {α:Type u} (l:List (Nat×α)) (t:Nat):Option α:=List.rec (motive:=λ_=>Option α) none (λp _ a=>bif Nat.beq p.1 t then some p.2 else a) l
structure Mt (E:Nat->Type) where
 s:St E
 r:Ren
 todo:Ren
section
variable (D:Data)
def pair (m:Mt D.E) (t b:Nat):C (Mt D.E):=Option.rec (motive:=λ_=>C (Mt D.E)) (bE (yu m.r b) .fail (.ret ⟨m.s,(t,b)::m.r,(t,b)::m.todo⟩)) (λa=>bB (Nat.beq a b) (.ret m)) (dT m.r t)
def Jh (m:Mt D.E) (t b:Nat):C (Mt D.E):=bE (yu m.r b) .fail (pair D m t b)
def rr (m:Mt D.E) (b:Nat):C (Ar D.E×Mt D.E):=bE (yu m.r b) .fail (aA (kG m.s b) λa=>aA (m.s.set b (some (.arr a.c a.xs a.e true))) λs=>.ret (a,⟨s,m.r,m.todo⟩))
def OJ (m:Mt D.E) (a:AV D.E) (c:Nat) (d:List (D.E c)):C (Mt D.E):=match a with
 | .list e xs=>aA (gK c e xs) λxs=>.ff (xs=d) (.ret m)
 | .grow e xs _=>aA (gK c e xs) λxs=>.ff (xs=d) (.ret m)
 | .cW=>.ff ([]=d) (.ret m)
 | .own b _ _=>aQ (rr D m b) λa m=>aA (gK c a.c a.xs) λxs=>.ff (xs=d) (.ret m)
 | .pre b _ n=>aQ (rr D m b) λa m=>aA (gK c a.c a.xs) λxs=>.ff (dv xs n=d) (.ret m)
 | .part b _ o n=>aQ (rr D m b) λa m=>aA (gK c a.c a.xs) λxs=>.ff (rq xs o n=d) (.ret m)
 | _=>.fail
def Qae (th:List (Nat×AO D.E)) (m:Mt D.E) (a k:Nat) (n:Int):C (Mt D.E):=aA (cN (cy th a)) λo=>match o with
 | .arr c _ e _=>bB (Nat.beq (D.size c) k) (aQ (m.s.new (.arr c [] e false)) λb s=>.ff (.ofNat (nat_lit 0)=n) (Jh D ⟨s,m.r,m.todo⟩ a b))
 | _=>.fail
def Qaf (th:List (Nat×AO D.E)) (m:Mt D.E) (a:Nat) (c:Nat) (d:List (D.E c)):C (Mt D.E):=aA (cN (cy th a)) λo=>match o with
 | .tok c2 e=>aQ (m.s.new (.tok c2 e)) λb s=>.ff ([]=d) (Jh D ⟨s,m.r,m.todo⟩ a b)
 | _=>.fail
def Qcd (m:Mt D.E) (b f:Nat) (d:Int) (g k:Nat) (n:Int):C (Mt D.E):=bE (yu m.r b) .fail (bB (Nat.beq f k) (aA (kG m.s b) λa=>bE a.ro .fail
 (aA (m.s.set b none) λs=>aQ (s.new (.arr a.c (dv a.xs d) a.e false)) λb s=>.ff (d=n) (Jh D ⟨s,m.r,m.todo⟩ g b))))
def Qce (m:Mt D.E) (a:AV D.E) (c:Nat) (y:D.E c) (j:Nat):C (Mt D.E):=match a with
 | .nu f x d=>bB (Nat.beq d j) (aA (IW c f x) λx=>.ff (x=y) (.ret m))
 | .ma b _ i d=>bB (Nat.beq d j) (aQ (rr D m b) λa m=>aA (gK c a.c a.xs) λxs=>.ff (gt (D.Wn c) xs i=y) (.ret m))
 | .ptr b o=>bB (Bool.and (Nat.beq o (nat_lit 0)) (Nat.beq j (nat_lit 0))) (bE (yu m.r b) .fail (aQ (Qb7 m.s b) λcs e=>aA (uw D c cs) λx=>aA (m.s.set b (some (.cells cs e true))) λs=>.ff (x=y) (.ret ⟨s,m.r,m.todo⟩)))
 | _=>.fail
def m0 (th:List (Nat×AO D.E)) (m:Mt D.E) (a t:AV D.E):C (Mt D.E):=match t with
 | .list c h=>OJ D m a c h
 | .grow c h d=>match a with
  | .grow l xs b=>aA (gK c l xs) λxs=>.ff (xs=h) (pair D m d b)
  | .cW=>Qaf D th m d c h
  | _=>.fail
 | .own d k n=>match a with
  | .own b e f=>bB (Nat.beq e k) (.ff (f=n) (pair D m d b))
  | .pre b e f=>Qcd D m b e f d k n
  | .cW=>Qae D th m d k n
  | _=>.fail
 | .pre d k n=>match a with
  | .pre b e f=>bB (Nat.beq e k) (.ff (f=n) (pair D m d b))
  | .own b e f=>bB (Nat.beq e k) (.ff (f=n) (pair D m d b))
  | _=>.fail
 | .part d k o n=>match a with
  | .part b e g f=>bB (Nat.beq e k) (.ff (g=o) (.ff (f=n) (pair D m d b)))
  | _=>.fail
 | .ptr d o=>match a with
  | .ptr b g=>bB (Nat.beq g o) (pair D m d b)
  | _=>.fail
 | .ma d k i j=>match a with
  | .ma b e p q=>bB (Bool.and (Nat.beq e k) (Nat.beq q j)) (.ff (p=i) (pair D m d b))
  | _=>.fail
 | .sub d o n=>match a with
  | .sub b g f=>bB (Bool.and (Nat.beq g o) (Nat.beq f n)) (pair D m d b)
  | _=>.fail
 | .nu c y j=>Qce D m a c y j
 | .map _=>.fail
 | t=>aA (v8 a t) λ_=>.ret m
def mL (th:List (Nat×AO D.E)) (Qvg:List (AV D.E)):List (AV D.E)->Mt D.E->C (Mt D.E):=
 List.rec (motive:=λ_=>List (AV D.E)->Mt D.E->C (Mt D.E)) (λb m=>List.rec (motive:=λ_=>C (Mt D.E)) (.ret m) (λ_ _ _=>.fail) b)
  (λa _ c b m=>List.rec (motive:=λ_=>C (Mt D.E)) .fail (λt b _=>aA (m0 D th m a t) λm=>c b m) b) Qvg
def mV (th:List (Nat×AO D.E)) (m:Mt D.E) (a t:AV D.E):C (Mt D.E):=match t with
 | .agg b=>match a with
  | .agg Qvg=>mL D th Qvg b m
  | _=>.fail
 | .tuple b=>match a with
  | .tuple Qvg=>mL D th Qvg b m
  | _=>.fail
 | .func g xs i=>match a with
  | .func f c d=>bB (Wt f g) (aA (mL D th c xs m) λm=>mL D th d i m)
  | _=>.fail
 | .iface u x=>match a with
  | .iface e h=>bB (Nat.beq e u) (m0 D th m h x)
  | _=>.fail
 | t=>m0 D th m a t
def mVs (th:List (Nat×AO D.E)) (Qvg:List (AV D.E)):List (AV D.E)->Mt D.E->C (Mt D.E):=
 List.rec (motive:=λ_=>List (AV D.E)->Mt D.E->C (Mt D.E)) (λb m=>List.rec (motive:=λ_=>C (Mt D.E)) (.ret m) (λ_ _ _=>.fail) b)
  (λa _ c b m=>List.rec (motive:=λ_=>C (Mt D.E)) .fail (λt b _=>aA (mV D th m a t) λm=>c b m) b) Qvg
def mO (th:List (Nat×AO D.E)) (m:Mt D.E) (a t:AO D.E):C (Mt D.E):=match t with
 | .cells g e ro=>match a with
  | .cells Qvg d b=>bB (Bool.and (Nat.beq d e) (Bool.rec (motive:=λ_=>Bool) (Bool.not b) b ro)) (mVs D th Qvg g m)
  | _=>.fail
 | .arr c h e ro=>match a with
  | .arr f xs d b=>bB (Bool.and (Nat.beq d e) (Bool.rec (motive:=λ_=>Bool) (Bool.not b) b ro)) (aA (gK c f xs) λxs=>.ff (xs=h) (.ret m))
  | _=>.fail
 | .tok c e=>match a with
  | .tok f d=>bB (Bool.and (Nat.beq f c) (Nat.beq d e)) (.ret m)
  | _=>.fail
def OK (th:List (Nat×AO D.E)) (n:Nat):Mt D.E->C (Mt D.E):=
 Nat.rec (motive:=λ_=>Mt D.E->C (Mt D.E)) (λ_=>.fail)
  (λ_ b m=>List.rec (motive:=λ_=>C (Mt D.E)) (.ret m) (λp r _=>aA (cN (cy th p.1)) λt=>aA (cN (m.s.h.get p.2)) λa=>aA (mO D th ⟨m.s,m.r,r⟩ a t) b) m.todo) n
def OL (s:St D.E) (r:Ren) (th:List (Nat×AO D.E)) (Qvg a:List (AV D.E)):C (St D.E×Ren):=aA (mVs D th Qvg a ⟨s,r,r⟩) λm=>aA (OK D th (nat_lit 200) m) λm=>
 bB (jB (λp=>Option.isSome (dT m.r p.1)) th) (.ret (m.s,m.r))
structure Iv (p:Prop):Prop where
 out:p
structure bk where
 f:FuncId
 Y:Type
 yn:List (AV D.E)->St D.E->C Y
 pre:Y->Prop
 args:Y->List (AV D.E)
 heap:Y->List (Nat×AO D.E)
 res:Y->AV D.E
 iE:Y->List (Nat×AO D.E)
 oD:Nat
 Cq:Nat
def rn (r:Ren) (a nx t:Nat):Nat:=Option.rec (motive:=λ_=>Nat) (Nat.add nx (Nat.sub t a)) (λb=>b) (dT r t)
def A' (f:Nat->Nat) (v:AV D.E):AV D.E:=match v with
 | .ptr b o=>.ptr (f b) o
 | .ma b k i j=>.ma (f b) k i j
 | .own b k n=>.own (f b) k n
 | .pre b k n=>.pre (f b) k n
 | .part b k o n=>.part (f b) k o n
 | .grow c xs b=>.grow c xs (f b)
 | .sub b o n=>.sub (f b) o n
 | .map r=>.map (f r)
 | v=>v
def LG (f:Nat->Nat) (v:AV D.E):AV D.E:=match v with
 | .agg cs=>.agg (sH (A' D f) cs)
 | .tuple cs=>.tuple (sH (A' D f) cs)
 | .func g xs a=>.func g (sH (A' D f) xs) (sH (A' D f) a)
 | .iface t x=>.iface t (A' D f x)
 | v=>A' D f v
def OM (f:Nat->Nat) (v:AV D.E):AV D.E:=match v with
 | .tuple cs=>.tuple (sH (LG D f) cs)
 | v=>LG D f v
def A_ (f:Nat->Nat) (o:AO D.E):AO D.E:=match o with
 | .cells cs e ro=>.cells (sH (LG D f) cs) e ro
 | o=>o
def V' (v:AV D.E):Bool:=match v with
 | .agg _=>false
 | .tuple _=>false
 | .func _ _ _=>false
 | .iface _ _=>false
 | _=>true
def okV (v:AV D.E):Bool:=match v with
 | .agg cs=>jB (V' D) cs
 | .tuple cs=>jB (V' D) cs
 | .func _ xs a=>Bool.and (jB (V' D) xs) (jB (V' D) a)
 | .iface _ x=>V' D x
 | _=>true
def Qe7 (v:AV D.E):Bool:=match v with
 | .tuple cs=>jB (okV D) cs
 | v=>okV D v
def okO (o:AO D.E):Bool:=match o with
 | .cells cs _ _=>jB (okV D) cs
 | _=>true
def Qcf (r:Ren) (l:List (Nat×AO D.E)):T (AO D.E)->C (T (AO D.E)):=List.rec (motive:=λ_=>T (AO D.E)->C (T (AO D.E))) (λh=>.ret h) (λp _ a h=>aA (cN (dT r p.1)) λb=>aA (cN (h.put b none)) a) l
def inP (f:Nat->Nat) (l:List (Nat×AO D.E)):T (AO D.E)->C (T (AO D.E)):=List.rec (motive:=λ_=>T (AO D.E)->C (T (AO D.E))) (λh=>.ret h) (λp _ a h=>aA (a h) λh=>cN (h.put (f p.1) (some (A_ D f p.2)))) l
def below (n:Nat) (l:List (Nat×AO D.E)):Bool:=jB (λp=>Nat.ble (Nat.succ p.1) n) l
def ON (k:bk D) (y:k.Y) (args:List (AV D.E)) (s:St D.E):C (AV D.E×St D.E):=.ff (Iv (k.pre y)) (bB (Bool.and (Bool.and (below D k.oD (k.heap y)) (Nat.ble k.oD k.Cq)) (Bool.and (Qe7 D (k.res y)) (jB (λp=>okO D p.2) (k.iE y)))) (aQ (OL D s [] (k.heap y) args (k.args y)) λa r=>
 aA (Qcf D r (k.heap y) a.h) λb=>aA (inP D (rn r k.oD a.nx) (k.iE y) b) λc=>.ret (OM D (rn r k.oD a.nx) (k.res y),⟨c,Nat.add a.nx (Nat.sub k.Cq k.oD)⟩)))
def Ba {α:Type} (x:C α):Bool:=C.rec (motive:=λ_=>Bool) (λ_=>false) true (λ_ _ c=>c) (λ_ _ _ a b=>Bool.and a b) (λ_ _ c=>c) x
def Wv (tab:List (bk D)):tK D.E:=λf args s=>List.rec (motive:=λ_=>C (AV D.E×St D.E)) .fail
 (λk _ a=>bE (Nat.beq k.f f) (bE (Ba (k.yn args s)) a (aA (k.yn args s) λy=>ON D k y args s)) a) tab
inductive Ex where
 | normal
 | exit (id:Nat)
 | ret
inductive Hint where
 | lock (t:Nat)
 | Qcg (t n:Nat)
 | fact (t:Nat)
 | y2 (b o n:Nat)
structure iF where
 X:Type
 aR:List Nat
 sl:X->List (Nat×AV D.E)
 kp:List Nat
 pc:X->List (Nat×AO D.E)
 nx:Nat
 inv:X->Prop
 me:X->Nat
structure Qe8 where
 K:Type
 L:K->iF D
 E:Option (iF D)
structure cU where
 hs:List (Nat×Hint)
 mu:List Nat
 lp:List (Nat×iF D)
 jn:List (Nat×iF D)
 un:Nat
 kf:List (Nat×Qe8 D)
abbrev CE:=Ex->St D.E->T (AV D.E)->Prop
def Ji (v:AV D.E):Prop:=match v with
 | .int k n=>jv k n
 | .str s=>aI (dS s) 9223372036854775807
 | .list _ xs=>aI (ah xs) 9223372036854775807
 | .grow _ xs _=>aI (ah xs) 9223372036854775807
 | .own _ _ n=>(aI zI n&&aI n 9223372036854775807)
 | _=>True
def OO (l:List (AV D.E)):Prop:=List.rec (motive:=λ_=>Prop) True (λv _ a=>Ji D v/\a) l
def Jj (v:AV D.E):Prop:=match v with
 | .agg l=>OO D l
 | .tuple l=>OO D l
 | v=>Ji D v
def OP (k:IntKind) (x:Int) (n:Nat):C (AV D.E):=Nat.rec (motive:=λ_=>C (AV D.E)) (ask (aC x zI) (.ret (.num k zI))) (λm a=>.split (aC x (.ofNat (Nat.succ m))) (.ret (.num k (.ofNat (Nat.succ m)))) a) n
def CF (v:AV D.E) (n:Nat):C (AV D.E):=match v with
 | .int k x=>OP D k x n
 | v=>.ret v
def Jk (s:St D.E) (v:AV D.E):C (AV D.E×St D.E):=match v with
 | .own b _ _=>aQ (rr D ⟨s,[],[]⟩ b) λa m=>.ret (.list a.c a.xs,m.s)
 | .pre b _ n=>aQ (rr D ⟨s,[],[]⟩ b) λa m=>.ret (.list a.c (dv a.xs n),m.s)
 | .part b _ o n=>aQ (rr D ⟨s,[],[]⟩ b) λa m=>.ret (.list a.c (rq a.xs o n),m.s)
 | .grow c xs _=>.ret (.list c xs,s)
 | v=>.ret (v,s)
def Fu (b o n:Nat) (s:St D.E):C (St D.E):=aA (cN (s.h.get b)) λa=>match a with
 | .cells cs e ro=>aA (cN (gM cs o)) λv=>aA (CF D v n) λv=>s.set b (some (.cells (cO cs o v) e ro))
 | _=>.fail
def y3 (h:Hint) (s:St D.E) (φ:T (AV D.E)):C (St D.E×T (AV D.E)):=match h with
 | .lock t=>aA (cN (φ.get t)) λv=>aQ (Jk D s v) λv s=>aA (cN (φ.put t (some v))) λφ=>.ret (s,φ)
 | .Qcg t n=>aA (cN (φ.get t)) λv=>aA (CF D v n) λv=>aA (cN (φ.put t (some v))) λφ=>.ret (s,φ)
 | .fact _=>.ret (s,φ)
 | .y2 b o n=>aA (Fu D b o n s) λs=>.ret (s,φ)
def Qag (h:Hint) (φ:T (AV D.E)) (K:Prop):Prop:=match h with
 | .fact t=>Option.rec (motive:=λ_=>Prop) K (λv=>Jj D v->K) (φ.get t)
 | _=>K
def oJ (l:List (Nat×Hint)) (id:Nat):St D.E->T (AV D.E)->(St D.E->T (AV D.E)->Prop)->Prop:=
 List.rec (motive:=λ_=>St D.E->T (AV D.E)->(St D.E->T (AV D.E)->Prop)->Prop) (λs φ K=>K s φ)
  (λp _ a s φ K=>bif Nat.beq p.1 id then Qag D p.2 φ ((y3 D p.2 s φ).wp λq=>Prod.rec (motive:=λ_=>Prop) (λs φ=>a s φ K) q) else a s φ K) l
def Ww (Q:CE D) (K:St D.E->T (AV D.E)->Prop):CE D:=λe s φ=>match e with
 | .normal=>K s φ
 | .exit id=>Q (.exit id) s φ
 | .ret=>Q .ret s φ
def Qch (id:Nat) (Q:CE D):CE D:=λe s φ=>match e with
 | .normal=>Q .normal s φ
 | .exit a=>bif Nat.beq a id then Q .normal s φ else Q (.exit a) s φ
 | .ret=>Q .ret s φ
def wa (φ:T (AV D.E)) (l:List Nat):C (List (AV D.E)):=List.rec (motive:=λ_=>C (List (AV D.E))) (.ret []) (λt _ a=>aA (cN (φ.get t)) λv=>aA a λr=>.ret (v::r)) l
def Wx (a:List (AV D.E)) (l:List Nat):T (AV D.E)->C (T (AV D.E)):=
 List.rec (motive:=λ_=>List (AV D.E)->T (AV D.E)->C (T (AV D.E))) (λ_ φ=>.ret φ) (λt _ b a φ=>List.rec (motive:=λ_=>C (T (AV D.E))) .fail (λv a _=>aA (cN (φ.put t (some v))) λφ=>b a φ) a) l a
def LH (s:St D.E) (l:List Nat):C (List (Nat×AO D.E)):=List.rec (motive:=λ_=>C (List (Nat×AO D.E))) (.ret []) (λt _ a=>aA (cN (s.h.get t)) λv=>aA a λr=>.ret ((t,v)::r)) l
def LI (l:List (Nat×AO D.E)):T (AO D.E)->C (T (AO D.E)):=List.rec (motive:=λ_=>T (AO D.E)->C (T (AO D.E))) (λh=>.ret h) (λp _ a h=>aA (a h) λh=>cN (h.put p.1 (some p.2))) l
def Qci {α:Type} (l:List (Nat×α)):List Nat:=sH (λp=>p.1) l
def Qcj {α:Type} (l:List (Nat×α)):List α:=sH (λp=>p.2) l
def fixed (base:Nat) (l:List (Nat×AO D.E)):Ren:=List.rec (motive:=λ_=>Ren) [] (λp _ a=>bif Nat.ble (Nat.succ p.1) base then(p.1,p.1)::a else a) l
def tL (base:Nat) (L:iF D) (x:L.X) (a:List (AV D.E)) (kp:List (Nat×AO D.E)) (s:St D.E) (φ:T (AV D.E)):C Unit:=
 aA (wa D φ (nt L.aR (Qci (L.sl x)))) λQvg=>aA (OL D s (fixed D base (nt kp (L.pc x))) (nt kp (L.pc x)) Qvg (nt a (Qcj (L.sl x)))) λ_=>eU
def Jl (base:Nat) (L:iF D) (x:L.X) (a:List (AV D.E)) (kp:List (Nat×AO D.E)):C (St D.E×T (AV D.E)):=
 aA (Wx D a L.aR .nil) λφ=>aA (Wx D (Qcj (L.sl x)) (Qci (L.sl x)) φ) λφ=>aA (LI D (nt kp (L.pc x)) .nil) λh=>bB (Bool.and (Nat.ble base L.nx) (below D L.nx (nt kp (L.pc x)))) (.ret (⟨h,L.nx⟩,φ))
abbrev Wk:=Nat->St D.E->T (AV D.E)->CE D->Prop
def y4 (base:Nat) (L:iF D) (body:Wk D):Wk D:=λp s φ Q=>
 (aA (wa D φ L.aR) λa=>aA (LH D s L.kp) λkp=>.ret (a,kp)).wp λq=>Prod.rec (motive:=λ_=>Prop) (λa kp=>
  (∃x:L.X,(tL D base L x a kp s φ).wp λ_=>Iv (L.inv x))/\
  (∀x:L.X,Iv (L.inv x)->(Jl D base L x a kp).wp λq=>Prod.rec (motive:=λ_=>Prop) (λs φ=>body (Nat.mul (nat_lit 2) p) s φ λe s φ=>match e with
   | .normal=>∃b:L.X,(tL D base L b a kp s φ).wp λ_=>Iv (L.inv b/\L.me b<L.me x)
   | .exit id=>Q (.exit id) s φ
   | .ret=>Q .ret s φ) q)) q
def OQ (base:Nat) (L:iF D) (a:List (AV D.E)) (kp:List (Nat×AO D.E)) (body:Wk D) (p:Nat) (G:Nat->St D.E->T (AV D.E)->Prop) (Q:CE D):Prop:=∀x:L.X,Iv (L.inv x)->(Jl D base L x a kp).wp λq=>Prod.rec (motive:=λ_=>Prop) (λs φ=>body (Nat.mul (nat_lit 2) p) s φ λe s φ=>match e with| .normal=>G (L.me x) s φ| .exit id=>Q (.exit id) s φ| .ret=>Q .ret s φ) q
def wb (base:Nat) (L:iF D) (b:List (AV D.E)) (kp:List (Nat×AO D.E)) (n:Nat) (s:St D.E) (φ:T (AV D.E)):Prop:=∃a:L.X,(tL D base L a b kp s φ).wp λ_=>Iv (L.inv a/\L.me a<n)
def Fv (base:Nat) (L b:iF D) (body:Wk D):Wk D:=λp s φ Q=>
 (aA (wa D φ L.aR) λa=>aA (LH D s L.kp) λkp=>bB (Nat.beq (kg L.aR) (kg b.aR)) (.ret (a,kp))).wp λq=>Prod.rec (motive:=λ_=>Prop) (λa kp=>
  (∃x:L.X,(tL D base L x a kp s φ).wp λ_=>Iv (L.inv x))/\
  OQ D base L a kp body p (λn s φ=>wb D base L a kp n s φ\/wb D base b a kp n s φ) Q/\OQ D base b a kp body p (λn s φ=>wb D base L a kp n s φ\/wb D base b a kp n s φ) Q) q
def y5 (base:Nat) (L:iF D) (b c:Wk D):Wk D:=λp s φ Q=>
 (aA (wa D φ L.aR) λa=>aA (LH D s L.kp) λkp=>.ret (a,kp)).wp λq=>Prod.rec (motive:=λ_=>Prop) (λa kp=>
  b (Nat.mul (nat_lit 2) p) s φ (Ww D Q λs φ=>∃x:L.X,(tL D base L x a kp s φ).wp λ_=>Iv (L.inv x))/\
  (∀x:L.X,Iv (L.inv x)->(Jl D base L x a kp).wp λq=>Prod.rec (motive:=λ_=>Prop) (λs φ=>c (Nat.succ (Nat.mul (nat_lit 2) p)) s φ Q) q)) q
def Bb (n:Nat) (body:Wk D):Wk D:=Nat.rec (motive:=λ_=>Wk D) (λ_ _ _ _=>False) (λ_ a p s φ Q=>body (Nat.mul (nat_lit 2) p) s φ λe s φ=>match e with
   | .normal=>a (Nat.add p (nat_lit 18446744073709551616)) s φ Q
   | .exit id=>Q (.exit id) s φ
   | .ret=>Q .ret s φ) n
end
section
variable (P:Program) (D:Data) (cd:TypeId->Option Nat) (ca:tK D.E) (base:Nat) (jb:cU D) (N:Nat)
def CG (l:List Nat) (n:Nat):Bool:=AY (λm=>Nat.beq m n) l
def Cr (c:Code):Wk D:=
 Code.rec (motive:=λ_=>Wk D)
  (λ_ s φ Q=>Q .normal s φ)
  (λid ops draw _ s φ Q=>oJ D jb.hs id s φ λs φ=>(bif draw then CD P D cd (CG jb.mu id) ca ops.toList N s φ else qC P D cd (CG jb.mu id) ca ops.toList N ops.toList (nat_lit 0) s φ).wp λq=>Prod.rec (motive:=λ_=>Prop) (λs φ=>Q .normal s φ) q)
  (λ_ _ b a p s φ Q=>Option.rec (motive:=λ_=>Prop) (Option.rec (motive:=λ_=>Prop) (b (Nat.mul (nat_lit 2) p) s φ (Ww D Q λs φ=>a (Nat.succ (Nat.mul (nat_lit 2) p)) s φ Q)) (λL=>y5 D base L b a p s φ Q) (cy jb.jn p)) (λF=>∃k:F.K,y5 D base (F.L k) b a p s φ Q) (cy jb.kf p))
  (λc _ _ b a p s φ Q=>(aA (ev P D φ c) λv=>vX D v).wp λt=>bif t then b (Nat.mul (nat_lit 2) p) s φ Q else a (Nat.succ (Nat.mul (nat_lit 2) p)) s φ Q)
  (λid _ a p s φ Q=>a (Nat.mul (nat_lit 2) p) s φ (Qch D id Q))
  (λ_ a p s φ Q=>Option.rec (motive:=λ_=>Prop) (Option.rec (motive:=λ_=>Prop) (Bb D jb.un a p s φ Q) (λL=>y4 D base L a p s φ Q) (cy jb.lp p)) (λF=>∃k:F.K,Option.rec (motive:=λ_=>Prop) (y4 D base (F.L k) a p s φ Q) (λd=>Fv D base (F.L k) d a p s φ Q) F.E) (cy jb.kf p))
  (λ_ _ _ _ _ _ _ _ _ _=>False)
  (λid _ s φ Q=>Q (.exit id) s φ)
  (λ_ _ _ _ _ _=>False)
  (λ_ _ s φ Q=>Q .normal s φ)
  (λ_ _ _ _ _=>False)
  (λ_ s φ Q=>Q .ret s φ)
  (λ_ _ _ _ _=>False) c
def OS (s:St D.E) (φ:T (AV D.E)) (r:ResultVar):C (AV D.E):=match r with
 | .tmp t=>cN (φ.get t)
 | .cell a t=>aA (cN (φ.get a)) λv=>Cy P D s t v
def OT (s:St D.E) (φ:T (AV D.E)) (rs:List ResultVar):C (List (AV D.E)):=
 List.rec (motive:=λ_=>C (List (AV D.E))) (.ret []) (λr _ a=>aA (OS P D s φ r) λv=>aA a λb=>.ret (v::b)) rs
def wc (v:AV D.E):List (AV D.E):=match v with
 | .tuple a=>a
 | v=>[v]
def sL (b:List (AV D.E)):Nat->T (AV D.E)->C (T (AV D.E)):=
 List.rec (motive:=λ_=>Nat->T (AV D.E)->C (T (AV D.E))) (λ_ φ=>.ret φ) (λv _ a i φ=>aA (cN (φ.put i (some v))) λφ=>a (Nat.succ i) φ) b
def stay (a b:List (Nat×AO D.E)):Ren:=List.rec (motive:=λ_=>Ren) [] (λp _ c=>bif Option.isSome (cy b p.1) then(p.1,p.1)::c else c) a
def named (a b:List (Nat×AO D.E)) (lo hi:Nat):Bool:=jB (λp=>Bool.or (Option.isSome (cy a p.1)) (Bool.and (Nat.ble lo p.1) (Nat.ble (Nat.succ p.1) hi))) b
def CH (v:AV D.E):Bool:=match v with
 | .tuple a=>Bool.not (Nat.beq (kg a) (nat_lit 1))
 | _=>true
def QlV (k:bk D) (y:k.Y) (rs:List ResultVar):CE D:=λe s φ=>match e with
 | .exit _=>False
 | _=>(bB (Bool.and (CH D (k.res y)) (Bool.and (named D (k.heap y) (k.iE y) k.oD k.Cq) (Nat.ble k.oD k.Cq))) (aA (OT P D s φ rs) λa=>OL D s (stay D (k.iE y) (k.heap y)) (k.iE y) a (wc D (k.res y)))).wp λ_=>True
def OU (k:bk D) (body:Code) (rs:List ResultVar) (y:k.Y):Prop:=(aA (sL D (k.args y) (nat_lit 0) .nil) λφ=>aA (LI D (k.heap y) .nil) λh=>.ret (φ,h)).wp λq=>Prod.rec (motive:=λ_=>Prop)
 (λφ h=>Cr P D cd ca k.oD jb N body (nat_lit 1) ⟨h,k.oD⟩ φ (QlV P D k y rs)) q
end
end
end sx
namespace sx
open Go Go.RowKit
section
variable {α β γ:Type}
variable {b:β} {a:α} {c:Bool} {x:C α} {Z Y:Nat} {X:C β} {W:Option α} {V:Option β}
theorem aH {f:α->Option β}:oB W f=some b↔∃a,W=some a/\f a=some b:=by
 cases W with
 | none=>exact⟨λh=>(nomatch h),λ⟨_,h,_⟩=>(nomatch h)⟩
 | some a=>exact⟨λh=>⟨a,rfl,h⟩,λ⟨_,h,r⟩=>by cases h;exact r⟩
def lJ:oI c V=some b↔c/\V=some b:=by
 cases c
 ·exact⟨λh=>(nomatch h),λ⟨h,_⟩=>(nomatch h)⟩
 ·exact⟨λh=>⟨rfl,h⟩,λ⟨_,h⟩=>h⟩
def Bc {y:Option β}:oE c V y=some b↔(c/\V=some b)\/(c=false/\y=some b):=by
 cases c
 ·exact⟨λh=>.inr ⟨rfl,h⟩,λh=>by rcases h with⟨h,_⟩ | ⟨_,h⟩;cases h;exact h⟩
 ·exact⟨λh=>.inl ⟨rfl,h⟩,λh=>by rcases h with⟨_,h⟩ | ⟨h,_⟩;exact h;cases h⟩
theorem av {b:α}:(C.ret a).H b↔a=b:=ZbW
def sM:¬(C.fail:C α).H a:=id
theorem cG {p:Prop}:(C.ff p x).H a↔p/\x.H a:=ZbW
theorem u9 {y:C α}:(C.split c x y).H a↔(c/\x.H a)\/(c=false/\y.H a):=ZbW
theorem an {f:α->C β}:(aA x f).H b↔∃a,x.H a/\(f a).H b:=by
 induction x with
 | ret a=>exact⟨λh=>⟨a,rfl,h⟩,λ⟨_,h,d⟩=>by cases av.1 h;exact d⟩
 | fail=>exact⟨λh=>h.elim,λ⟨_,h,_⟩=>h.elim⟩
 | ff p x i=>
  show(p/\(aA x f).H b)↔_
  rw[i];exact⟨λ⟨g,a,h1,d⟩=>⟨a,⟨g,h1⟩,d⟩,λ⟨a,⟨g,h1⟩,d⟩=>⟨g,a,h1,d⟩⟩
 | split c x y j k=>
  show((c/\(aA x f).H b)\/(c=false/\(aA y f).H b))↔_
  rw[j,k];constructor
  ·rintro(⟨e,a,h1,d⟩ | ⟨e,a,h1,d⟩)
   ·exact⟨a,.inl ⟨e,h1⟩,d⟩
   ·exact⟨a,.inr ⟨e,h1⟩,d⟩
  ·rintro⟨a,⟨e,h1⟩ | ⟨e,h1⟩,d⟩
   ·exact .inl ⟨e,a,h1,d⟩
   ·exact .inr ⟨e,a,h1,d⟩
 | want c x i=>
  show(c/\(aA x f).H b)↔_
  rw[i];exact⟨λ⟨g,a,h1,d⟩=>⟨a,⟨g,h1⟩,d⟩,λ⟨a,⟨g,h1⟩,d⟩=>⟨g,a,h1,d⟩⟩
theorem bq {x:C (α×β)} {f:α->β->C γ} {r:γ}:(aQ x f).H r↔∃a b,x.H (a,b)/\(f a b).H r:=by
 grind [aQ,an]
theorem bz:(bB c X).H b↔c/\X.H b:=by
 cases c
 ·exact⟨λh=>h.elim,λ⟨h,_⟩=>(nomatch h)⟩
 ·exact⟨λh=>⟨rfl,h⟩,λ⟨_,h⟩=>h⟩
theorem gS {y:C β}:(bE c X y).H b↔(c/\X.H b)\/(c=false/\y.H b):=by
 cases c
 ·exact⟨λh=>.inr ⟨rfl,h⟩,λh=>by rcases h with⟨h,_⟩ | ⟨_,h⟩;cases h;exact h⟩
 ·exact⟨λh=>.inl ⟨rfl,h⟩,λh=>by rcases h with⟨_,h⟩ | ⟨h,_⟩;exact h;cases h⟩
theorem bC:(cN W).H a↔W=some a:=by
 cases W with
 | none=>exact⟨λh=>h.elim,λh=>nomatch h⟩
 | some b=>exact⟨λh=>ZaR some (av.1 h),λh=>by cases h;rfl⟩
theorem cX:(ask c X).H b↔c/\X.H b:=ZbW
theorem gh {K:α->Prop} (h:x.wp K):∃a,x.H a/\K a:=by
 induction x with
 | ret a=>exact⟨a,rfl,h⟩
 | fail=>exact h.elim
 | ff p x g=>obtain⟨f,h⟩:=h;obtain⟨a,h1,b⟩:=g h;exact⟨a,⟨f,h1⟩,b⟩
 | want c x g=>obtain⟨f,h⟩:=h;obtain⟨a,h1,b⟩:=g h;exact⟨a,⟨f,h1⟩,b⟩
 | split c x y i j=>
  obtain⟨h1,b⟩:=h;cases k:c with
  | true=>obtain⟨a,d,e⟩:=i (h1 k);exact⟨a,.inl ⟨rfl,d⟩,e⟩
  | false=>obtain⟨a,d,e⟩:=j (b k);exact⟨a,.inr ⟨rfl,d⟩,e⟩
theorem Qe9 {b:α} (d:x.H a) (e:x.H b):a=b:=by
 induction x with
 | ret c=>exact(av.1 d).symm.trans (av.1 e)
 | fail=>exact d.elim
 | ff p x h=>exact h d.2 e.2
 | want c x h=>exact h d.2 e.2
 | split c x y i j=>
  rcases d with⟨h1,f⟩ | ⟨h1,f⟩<;>rcases e with⟨k,g⟩ | ⟨k,g⟩
  ·exact i f g
  ·grind
  ·grind
  ·exact j f g
theorem Qah (h:(knw x).H a):x.H a:=by
 induction x with
 | ret c=>exact h
 | fail=>exact h
 | ff p x d=>exact⟨h.1,d h.2⟩
 | want c x d=>
  obtain⟨h1,b⟩:=bz.1 (show(bB c (knw x)).H a from h);exact⟨h1,d b⟩
 | split c x y e f=>
  rcases gS.1 (show(bE c (knw x) (knw y)).H a from h) with⟨h1,b⟩ | ⟨h1,b⟩
  ·exact .inl ⟨h1,e b⟩
  ·exact .inr ⟨h1,f b⟩
theorem aN:Nat.beq Z Y↔Z=Y:=⟨ZdO,λh=>h▸ZdY Z⟩
theorem cu:Nat.ble Z Y↔Z<=Y:=Nat.ble_eq▸ZbW
theorem rv:Nat.beq Z Y=false↔Z≠Y:=by
 grind [aN]
theorem CI:Nat.ble Z Y=false↔Y<Z:=by
 grind [cu]
end
section
variable {α:Type}
theorem T.get_nil (k:Nat):(T.nil:T α).get k=none:=rfl
def T.mh (v:Option α) (l r:T α):(T.node v l r).get 0=v:=rfl
theorem T.oK (v:Option α) (l r:T α) (k:Nat) (h:k % 2=0):(T.node v l r).get (k+1)=l.get (k / 2):=by
 show Nat.rec (motive:=λ_=>Option α) (l.get (k / 2)) (λ_ _=>r.get (k / 2)) (k % 2)=_
 rw[h];rfl
theorem T.rz (v:Option α) (l r:T α) (k:Nat) (h:k % 2=1):(T.node v l r).get (k+1)=r.get (k / 2):=by
 show Nat.rec (motive:=λ_=>Option α) (l.get (k / 2)) (λ_ _=>r.get (k / 2)) (k % 2)=_
 rw[h];rfl
theorem T.we:∀(n k:Nat) (a:Option α) (t:T α),T.mk1 n k a=some t->∀j,t.get j=if j=k then a else none
 | 0,k,a,t,h,j=>nomatch h
 | n+1,0,a,t,h,j=>by
  have b:some (T.node a .nil .nil)=some t:=h;cases b;cases j with
  | zero=>simp[T.mh]
  | succ j=>
   grind [T.oK,T.get_nil,T.rz]
 | n+1,k+1,a,t,h,j=>by
  have b:Nat.rec (motive:=λ_=>Option (T α)) (oB (T.mk1 n (k / 2) a) λl=>some (.node none l .nil)) (λ_ _=>oB (T.mk1 n (k / 2) a) λr=>some (.node none .nil r)) (k % 2)=some t:=h;rcases Zbq k with e | e
  ·rw[e] at b;obtain⟨l,hl,ht⟩:=aH.1 b;cases ht;have c:=T.we n _ _ _ hl;cases j with
   | zero=>simp[T.mh]
   | succ j=>
    grind [T.oK,T.rz,T.get_nil]
  ·rw[e] at b;obtain⟨l,hl,ht⟩:=aH.1 b;cases ht;have c:=T.we n _ _ _ hl;cases j with
   | zero=>simp[T.mh]
   | succ j=>
    grind [T.oK,T.get_nil,T.rz]
theorem T.dU:∀(t:T α) (k:Nat) (a:Option α) (b:T α),t.put k a=some b->∀j,b.get j=if j=k then a else t.get j
 | .nil,k,a,b,h,j=>by rw[T.we 64 k a b h j,T.get_nil]
 | .node v l r,0,a,b,h,j=>by
  have c:some (T.node a l r)=some b:=h;cases c;cases j with
  | zero=>simp[T.mh]
  | succ j=>
   rfl
 | .node v l r,k+1,a,b,h,j=>by
  have c:Nat.rec (motive:=λ_=>Option (T α)) (oB (l.put (k / 2) a) λd=>some (.node v d r)) (λ_ _=>oB (r.put (k / 2) a) λg=>some (.node v l g)) (k % 2)=some b:=h;rcases Zbq k with e | e
  ·rw[e] at c;obtain⟨d,hl,ht⟩:=aH.1 c;cases ht;have f:=T.dU l _ _ _ hl;cases j with
   | zero=>simp[T.mh]
   | succ j=>
    grind [T.oK,T.rz]
  ·rw[e] at c;obtain⟨d,hl,ht⟩:=aH.1 c;cases ht;have f:=T.dU r _ _ _ hl;cases j with
   | zero=>simp[T.mh]
   | succ j=>
    grind [T.oK,T.rz]
end
section
variable {α:Type}
theorem hI (l:List α):kg l=l.length:=by
 induction l with
 | nil=>rfl
 | cons a l b=>show Nat.succ (kg l)=_;rw[b];rfl
theorem fb:∀(l:List α) (n:Nat),gM l n=l[n]?
 | [],n=>by rfl
 | a::l,0=>rfl
 | a::l,n+1=>by show gM l n=_;rw[fb l n];simp
theorem fD:∀(x y:List α),nt x y=x++y
 | [],y=>rfl
 | a::x,y=>by show a::nt x y=_;rw[fD x y];rfl
theorem pC {β:Type} (f:α->β):∀l:List α,sH f l=l.map f
 | []=>rfl
 | a::l=>by show f a::sH f l=_;rw[pC f l];rfl
theorem mj:∀(n:Nat) (l:List α),oe n l=l.drop n
 | 0,l=>rfl
 | n+1,[]=>by rfl
 | n+1,a::l=>by show oe n l=_;rw[mj n l];rfl
theorem jf:∀{n:Nat} {l r:List α},tH n l=some r->n<=l.length/\r=l.take n
 | 0,l,r,h=>by cases(show some []=some r from h);simp
 | n+1,[],r,h=>nomatch (show none=some r from h)
 | n+1,a::l,r,h=>by
  obtain⟨z,hz,b⟩:=aH.1 (show oB (tH n l) (λz=>some (a::z))=some r from h);cases b;obtain⟨h1,c⟩:=jf hz;grind
theorem dV {f:α->Bool}:∀{l:List α},jB f l↔∀x∈l,f x
 | []=>by simp[jB]
 | a::l=>by
  show Bool.rec (motive:=λ_=>Bool) false (jB f l) (f a)↔_
  have:=dV (f:=f) (l:=l);cases h:f a<;>simp[h,this]
theorem wg:∀{a cs r:List α},IV a cs=some r->a.length<=cs.length/\r.length=cs.length/\∀i,r[i]?=if i<a.length then a[i]? else cs[i]?
 | [],cs,r,h=>by cases(show some cs=some r from h);simp
 | v::a,[],r,h=>nomatch (show none=some r from h)
 | v::a,c::cs,r,h=>by
  obtain⟨z,hz,b⟩:=aH.1 (show oB (IV a cs) (λz=>some (v::z))=some r from h);cases b;obtain⟨h1,d,e⟩:=wg hz;grind
theorem jg:∀{n:Nat} {a cs r:List α},Cw n a cs=some r->n+a.length<=cs.length/\r.length=cs.length/\∀i,r[i]?=if n<=i/\i<n+a.length then a[i-n]? else cs[i]?
 | 0,a,cs,r,h=>by
  obtain⟨h1,b,d⟩:=wg (show IV a cs=some r from h);grind
 | n+1,a,[],r,h=>nomatch (show none=some r from h)
 | n+1,a,c::cs,r,h=>by
  obtain⟨z,hz,e⟩:=aH.1 (show oB (Cw n a cs) (λz=>some (c::z))=some r from h);cases e;obtain⟨h1,b,d⟩:=jg hz;grind
def y6 (n:Nat) (z:List α):LD (n+1) z=z++LD n z:=fD _ _
end
theorem l4 {a b:Bool} (h:Bool.and a b):a/\b:=by grind
theorem or2 {a b:Bool} (h:Bool.or a b):a\/b:=by grind
structure MI where
 bZ:Nat
 sh:Nat
 qu:Nat
 jh:Nat
 len:Nat
 real:Bool
structure Pm (D:Data) where
 pl:Nat->Option MI
 sg:Nat->Nat->Option (AV D.E)
def cx {D:Data} (M:Pm D) (b o c:Nat) (xs:List (D.E c)):Prop:=∀(i:Nat) (hi:i<xs.length) (j:Nat) (v:AV D.E),(D.ba c xs[i])[j]?=some v->M.sg b (o+i*D.size c+j)=some v
inductive VR {D:Data} (M:Pm D):AV D.E->Value->Prop
 | bool (b:Bool):VR M (.bool b) (.bool b)
 | lit (b:Bool):VR M (.lit b) (.bool b)
 | int {k:IntKind} {n:Int} (h:jv k n=true):VR M (.int k n) (.int k n)
 | num {k:IntKind} {n:Int} (h:jv k n=true):VR M (.num k n) (.int k n)
 | str {s:List UInt8} (h:s.length<=9223372036854775807):VR M (.str s) (.string ⟨⟨s⟩⟩)
 | fC:VR M .fC (.pointer none)
 | ptr {b o:Nat} {mi:MI} (h:M.pl b=some mi) (hr:mi.real=true):VR M (.ptr b o) (.pointer (some ⟨mi.bZ,mi.sh+o,none⟩))
 | kF (g o:Nat):VR M (.kF g o) (.pointer (some ⟨g,o,none⟩))
 | ma {b k i j:Nat} {mi:MI} (h:M.pl b=some mi) (hr:mi.real=true) (hk:mi.jh=k) (hi:i<mi.len):VR M (.ma b k i j) (.pointer (some ⟨mi.bZ,mi.sh+i*k+j,none⟩))
 | nu {c:Nat} {x:D.E c} {b o j:Nat} (h:∀(i:Nat) (v:AV D.E),(D.ba c x)[i]?=some v->M.sg b (o+i)=some v):VR M (.nu c x j) (.pointer (some ⟨b,o+j,none⟩))
 | cW:VR M .cW (.slice none 0 0)
 | own {b k cap:Nat} {n:Int} {mi:MI} (h:M.pl b=some mi) (hk:mi.jh=k) (hr:mi.real=true) (hn:n=mi.len) (hm:mi.len<=9223372036854775807) (hc:mi.len<=cap) (ht:mi.sh+cap*mi.jh=mi.qu):VR M (.own b k n) (.slice (some ⟨mi.bZ,mi.sh,none⟩) mi.len cap)
 | l5 {b k:Nat} {n:Int} {mi:MI} (h:M.pl b=some mi) (hk:mi.jh=k) (hr:mi.real=false) (hn:n=0) (hl:mi.len=0):VR M (.own b k n) (.slice none 0 0)
 | pre {b k l cap:Nat} {n:Int} {mi:MI} (h:M.pl b=some mi) (hk:mi.jh=k) (hr:mi.real=true) (hn:n=l) (hm:mi.len<=9223372036854775807) (hl:l<=mi.len) (hc:mi.len<=cap) (ht:mi.sh+cap*mi.jh=mi.qu):VR M (.pre b k n) (.slice (some ⟨mi.bZ,mi.sh,none⟩) l cap)
 | oL {b k:Nat} {n:Int} {mi:MI} (h:M.pl b=some mi) (hk:mi.jh=k) (hr:mi.real=false) (hn:n=0) (hl:mi.len=0):VR M (.pre b k n) (.slice none 0 0)
 | part {b k l cap:Nat} {o n:Int} {mi:MI} (h:M.pl b=some mi) (hk:mi.jh=k) (hr:mi.real=true) (hn:n=l) (ho:0<=o) (hl:o.toNat+l<=mi.len) (hm:mi.len<=9223372036854775807) (hc:l<=cap):VR M (.part b k o n) (.slice (some ⟨mi.bZ,mi.sh+o.toNat*mi.jh,none⟩) l cap)
 | jC {b k c:Nat} {o n:Int} {mi:MI} {a:Option Addr} (h:M.pl b=some mi) (hk:mi.jh=k) (hn:n=0) (ho:0<=o):VR M (.part b k o n) (.slice a 0 c)
 | grow {c b cap:Nat} {xs:List (D.E c)} {mi:MI} (h:M.pl b=some mi) (hr:mi.real=true) (hl:mi.len=xs.length) (hz:mi.jh=D.size c) (hs:cx M mi.bZ mi.sh c xs) (hm:xs.length<=9223372036854775807) (hc:xs.length<=cap) (ht:mi.sh+cap*mi.jh=mi.qu):
   VR M (.grow c xs b) (.slice (some ⟨mi.bZ,mi.sh,none⟩) xs.length cap)
 | j6 {c b:Nat} {mi:MI} (h:M.pl b=some mi) (hr:mi.real=false):VR M (.grow c [] b) (.slice none 0 0)
 | sub {b o n cap:Nat} {mi:MI} (h:M.pl b=some mi) (hr:mi.real=true) (hc:n<=cap) (hm:n<=9223372036854775807):VR M (.sub b o n) (.slice (some ⟨mi.bZ,mi.sh+o,none⟩) n cap)
 | oM {b o cap:Nat} {a:Addr}:VR M (.sub b o 0) (.slice (some a) 0 cap)
 | list {c b o cap:Nat} {xs:List (D.E c)} (hs:cx M b o c xs) (hm:xs.length<=9223372036854775807) (hc:xs.length<=cap):VR M (.list c xs) (.slice (some ⟨b,o,none⟩) xs.length cap)
 | dW {c cap:Nat} {a:Option Addr}:VR M (.list c []) (.slice a 0 cap)
 | qh:VR M .qh (.map none)
 | map {r:Nat} {mi:MI} (h:M.pl r=some mi):VR M (.map r) (.map (some mi.bZ))
 | nilFunc:VR M .nilFunc .nilFunc
 | nilIface:VR M .nilIface .nilIface
 | iface (t:TypeId) {v:AV D.E} {v':Value} (h:VR M v v'):VR M (.iface t v) (.iface t v')
 | agg {c:List (AV D.E)} {c':Array Value} (hl:c.length=c'.toList.length) (h:∀(i:Nat) (v:AV D.E) (v':Value),c[i]?=some v->c'.toList[i]?=some v'->VR M v v'):VR M (.agg c) (.agg c')
 | tuple {c:List (AV D.E)} {c':Array Value} (hl:c.length=c'.toList.length) (h:∀(i:Nat) (v:AV D.E) (v':Value),c[i]?=some v->c'.toList[i]?=some v'->VR M v v'):VR M (.tuple c) (.tuple c')
 | func (fn:Fn) {f c:List (AV D.E)} {f' c':Array Value} (hl:f.length=f'.toList.length) (h:∀(i:Nat) (v:AV D.E) (v':Value),f[i]?=some v->f'.toList[i]?=some v'->VR M v v')
   (hl2:c.length=c'.toList.length) (h2:∀(i:Nat) (v:AV D.E) (v':Value),c[i]?=some v->c'.toList[i]?=some v'->VR M v v'):VR M (.func fn f c) (.func fn f' c')
section
variable {D:Data} {M M':Pm D}
variable {c:List Value} {l:List (AV D.E)} {v:AV D.E} {p:Value}
variable {b:List Value}
def LR (M:Pm D) (l:List (AV D.E)) (a:List Value):Prop:=l.length=a.length/\∀(i:Nat) (v:AV D.E) (b:Value),l[i]?=some v->a[i]?=some b->VR M v b
def yv (M a:Pm D):Prop:=∀b o v,M.sg b o=some v->a.sg b o=some v
def Le (M a:Pm D):Prop:=(∀b c,M.pl b=some c->a.pl b=some c)/\yv M a
theorem Le.refl (M:Pm D):Le M M:=⟨λ_ _ h=>h,λ_ _ _ h=>h⟩
def cx.mono (a:yv M M') {b o c:Nat} {xs:List (D.E c)} (h:cx M b o c xs):cx M' b o c xs:=λi hi j v e=>a _ _ _ (h i hi j v e)
theorem VR.mono (c:Le M M') (h:VR M v p):VR M' v p:=by
 induction h with
 | bool b=>exact .bool b
 | lit b=>exact .lit b
 | int h=>exact .int h
 | num h=>exact .num h
 | str h=>exact .str h
 | fC=>exact .fC
 | ptr h a=>exact .ptr (c.1 _ _ h) a
 | kF g o=>exact .kF g o
 | ma h a hk hi=>exact .ma (c.1 _ _ h) a hk hi
 | nu h=>exact .nu λi v e=>c.2 _ _ _ (h i v e)
 | cW=>exact .cW
 | own h hk a j f d ht=>exact .own (c.1 _ _ h) hk a j f d ht
 | l5 h hk a j hl=>exact .l5 (c.1 _ _ h) hk a j hl
 | pre h hk a j f hl d ht=>exact .pre (c.1 _ _ h) hk a j f hl d ht
 | oL h hk a j hl=>exact .oL (c.1 _ _ h) hk a j hl
 | part h hk a j m hl f d=>exact .part (c.1 _ _ h) hk a j m hl f d
 | jC h hk j m=>exact .jC (c.1 _ _ h) hk j m
 | grow h a hl hz hs f d ht=>exact .grow (c.1 _ _ h) a hl hz (hs.mono c.2) f d ht
 | j6 h a=>exact .j6 (c.1 _ _ h) a
 | sub h a d f=>exact .sub (c.1 _ _ h) a d f
 | oM=>exact .oM
 | list hs f d=>exact .list (hs.mono c.2) f d
 | dW=>exact .dW
 | qh=>exact .qh
 | map h=>exact .map (c.1 _ _ h)
 | nilFunc=>exact .nilFunc
 | nilIface=>exact .nilIface
 | iface t _ k=>exact .iface t k
 | agg hl _ k=>exact .agg hl k
 | tuple hl _ k=>exact .tuple hl k
 | func fn hl _ l _ k n=>exact .func fn hl k l n
def LR.mono (d:Le M M') (h:LR M l c):LR M' l c:=⟨h.1,λi v e a b=>(h.2 i v e a b).mono d⟩
theorem LR.nil:LR M [] []:=⟨rfl,λi v a h=>by simp at h⟩
def LR.cons (h:VR M v p) (hl:LR M l c):LR M (v::l) (p::c):=
 ⟨by simp[hl.1],λi u e a b=>by
  cases i with
  | zero=>simp at a b;subst a;subst b;exact h
  | succ i=>exact hl.2 i u e (by simpa using a) (by assumption)⟩
theorem LR.aP (h:LR M (v::l) c):∃d r,c=d::r/\VR M v d/\LR M l r:=by
 have⟨hl,e⟩:=h;cases c with
 | nil=>simp at hl
 | cons d r=>exact⟨d,r,rfl,e 0 v d rfl rfl,by grind,λi u f a b=>e (i+1) u f (by simpa using a) (by simpa using b)⟩
def LR.jD (h:LR M [] c):c=[]:=Zap h.1.symm
def LR.get (h:LR M l c) {i:Nat} (b:l[i]?=some v):∃a,c[i]?=some a/\VR M v a:=by
 have hi:i<c.length:=by rw[<-h.1];exact(Zam.1 b).1
 exact⟨_,Zaf hi,h.2 i v _ b (Zaf hi)⟩
def LR.app {f:List (AV D.E)} (h:LR M l c) (k:LR M f b):LR M (l++f) (c++b):=by
 refine⟨by simp[h.1,k.1],λi v g e d=>?_⟩;by_cases hi:i<l.length
 ·rw[Zat hi] at e;rw[Zat (by rw[<-h.1];exact hi)] at d;exact h.2 i v g e d
 ·rw[Zaz ω] at e;rw[Zaz (by rw[<-h.1];omega),<-h.1] at d;exact k.2 _ v g e d
theorem LR.drop (h:LR M l b) (n:Nat):LR M (l.drop n) (b.drop n):=
 ⟨by simp[h.1],λi v c e d=>h.2 (n+i) v c (by grind) (by grind)⟩
def LR.take (h:LR M l c) (n:Nat):LR M (l.take n) (c.take n):=
 ⟨by simp[h.1],λi v d e b=>by
  rw[Za7] at e b;split at e
  ·rename_i hi;rw[Zac hi] at b;exact h.2 i v d e b
  ·cases e⟩
def VR.CJ (h:LR M l c):VR M (.agg l) (.agg ⟨c⟩):=.agg h.1 h.2
def VR.CK (h:LR M l c):VR M (.tuple l) (.tuple ⟨c⟩):=.tuple h.1 h.2
def VR.undef:VR M (sx.undef:AV D.E) Go.undef:=.tuple rfl (λi v a h=>by cases h)
theorem fg (h:VR M v p):LR M (cR v) p.cells.toList:=by
 have hs:∀(u:AV D.E) (a:Value),VR M u a->LR M [u] [a]:=λu a k=>.cons k .nil
 cases h
 case agg hl h=>exact⟨hl,h⟩
 all_goals (exact hs _ _ (by constructor<;>assumption))
def Qck (h:VR M v p) (h1:one v):p.oneCell':=by
 cases h<;>first | rfl | cases h1
theorem sN (h:LR M l c) (h1:jB one l):∀v∈c,v.oneCell':=by
 intro d b;have⟨i,hi⟩:=List.mem_iff_getElem?.1 b;have a:i<l.length:=by rw[h.1];exact(Zam.1 hi).1
 exact Qck (h.2 i _ d (Zaf a) hi) (dV.1 h1 _ (Zas a))
def ml (v:AV D.E):Bool:=match v with
 | .bool _=>true | .lit _=>true | .int _ _=>true | .num _ _=>true | .str _=>true | .fC=>true | .kF _ _=>true | .nu _ _ _=>true | .cW=>true | .list _ _=>true | .qh=>true | .nilFunc=>true | .nilIface=>true
 | .func _ f c=>f.isEmpty&&c.isEmpty
 | _=>false
theorem VR.pure {v':Value} (h:VR M v v') (d:ml v) (j:yv M M'):VR M' v v':=by
 cases h<;>first | (cases d;done) | skip
 case bool b=>exact .bool b
 case lit b=>exact .lit b
 case int h=>exact .int h
 case num h=>exact .num h
 case str h=>exact .str h
 case fC=>exact .fC
 case kF g o=>exact .kF g o
 case nu h=>exact .nu λi v e=>j _ _ _ (h i v e)
 case cW=>exact .cW
 case list hs l k=>exact .list (hs.mono j) l k
 case dW=>exact .dW
 case qh=>exact .qh
 case nilFunc=>exact .nilFunc
 case nilIface=>exact .nilIface
 case func fn f c n m hl h a p=>
  simp only[ml,ZaW,List.isEmpty_iff] at d;obtain⟨rfl,rfl⟩:=d;exact .func fn hl (λi v v' e=>by simp at e) a (λi v v' e=>by simp at e)
end
structure a7 (D:Data):Prop where
 len:∀c x,(D.ba c x).length=D.size c
 one:∀c x,∀v∈D.ba c x,one v=true/\ml v=true
 dec:∀c row x,D.dec c row=some x->row.length=D.size c/\∀(j:Nat) (a a':AV D.E),row[j]?=some a->(D.ba c x)[j]?=some a'->∀(M:Pm D) (v:Value),VR M a v->VR M a' v
 b1:D.size D.bc=1
 bl:∀xs,(D.ym xs).length=xs.length
 be:∀(xs:List (D.E D.bc)) (i:Nat) (h:i<xs.length),D.ba D.bc xs[i]=[.int .u8 ((D.ym xs)[i]'(by rw[bl];exact h)).toNat]
 bo:∀l,D.ym (D.ofB l)=l
section
variable {D:Data}
variable {M:Pm D} {c:MI} {w:World} {o:AO D.E}
def aY (c:Nat) (xs:List (D.E c)):List (AV D.E):=xs.flatMap (D.ba c)
def N6 (M:Pm D) (a:MI) (w:World) (cs:List (AV D.E)) (e:TypeId) (ro:Bool):Prop:=∃C b,w.heap[a.bZ]?=some (.cells C e b)/\C.size=a.qu/\a.sh+cs.length<=a.qu/\
 (∀(i:Nat) (v:AV D.E),cs[i]?=some v->∃c,C[a.sh+i]?=some c/\VR M v c)/\(ro=false->b.1=b.2\/a.qu<=b.1/\a.jh=1)
def OR (M:Pm D) (o:AO D.E) (a:MI) (w:World):Prop:=match o with
 | .cells cs e ro=>(a.real/\a.sh=0/\a.qu=cs.length)/\N6 M a w cs e ro
 | .arr c xs e ro=>a.len=xs.length/\a.jh=D.size c/\(a.real->N6 M a w (aY c xs) e ro)
 | .tok c e=>a.jh=D.size c/\(a.real->∃C b,w.heap[a.bZ]?=some (.cells C e b)/\C.size=a.qu/\a.sh+a.len*a.jh<=a.qu/\(b.1=b.2\/a.qu<=b.1/\a.jh=1))
def AO.wr {E:Nat->Type} (o:AO E):Bool:=match o with
 | .cells _ _ ro=>!ro
 | .arr _ _ _ ro=>!ro
 | .tok _ _=>true
def AO.sO {E:Nat->Type} (o:AO E) (a:MI) (j:Nat):Prop:=match o with
 | .tok _ _=>a.sh+a.len*a.jh<=j
 | _=>True
def N6.mono {d:Pm D} (n:Le M d) {cs:List (AV D.E)} {e:TypeId} {ro:Bool} {f:World} (hw:f.heap[c.bZ]?=w.heap[c.bZ]?) (h:N6 M c w cs e ro):N6 d c f cs e ro:=by
 have⟨C,g,h1,j,k,l,m⟩:=h;exact⟨C,g,hw.trans h1,j,k,λi v e=>let ⟨o,a,b⟩:=l i v e;⟨o,a,b.mono n⟩,m⟩
theorem OR.mono {d:Pm D} (f:Le M d) {g:World} (hw:c.real->g.heap[c.bZ]?=w.heap[c.bZ]?) (h:OR M o c w):OR d o c g:=by
 cases o with
 | cells cs e ro=>exact⟨h.1,h.2.mono f (hw h.1.1)⟩
 | arr b xs e ro=>exact⟨h.1,h.2.1,λa=>(h.2.2 a).mono f (hw a)⟩
 | tok b e=>exact⟨h.1,λa=>let ⟨C,i,h1,j⟩:=h.2 a;⟨C,i,(hw a).trans h1,j⟩⟩
theorem OR.lt (h:OR M o c w) (d:c.real):c.bZ<w.heap.size:=by
 have:∃x,w.heap[c.bZ]?=some x:=by
  cases o with
  | cells cs e ro=>have⟨_,C,b,h1,_⟩:=h;exact⟨_,h1⟩
  | arr a xs e ro=>have⟨C,b,h1,_⟩:=h.2.2 d;exact⟨_,h1⟩
  | tok a e=>have⟨C,b,h1,_⟩:=h.2 d;exact⟨_,h1⟩
 grind
abbrev Hp (D:Data):=Nat->Option (AO D.E)
structure dX (M:Pm D) (H:Hp D) (w:World):Prop where
 obj:∀b o,H b=some o->∃mi,M.pl b=some mi/\OR M o mi w
 inj:∀b b' o o' mi N7,H b=some o->H b'=some o'->M.pl b=some mi->M.pl b'=some N7->mi.real=true->N7.real=true->mi.bZ=N7.bZ->b=b'
 gL:∀b o v,M.sg b o=some v->ml v=true/\∃v',w.cell? ⟨b,o,none⟩=some v'/\VR M v v'
 sep:∀b o mi,H b=some o->o.wr=true->M.pl b=some mi->mi.real=true->∀j,o.sO mi j->M.sg mi.bZ j=none
 Jm:∀b c xs e mi,H b=some (.arr c xs e true)->M.pl b=some mi->mi.real=true->cx M mi.bZ mi.sh c xs
 mb:(D.ng<=w.heap.size/\D.gw w)/\∀b o mi,H b=some o->o.wr=true->M.pl b=some mi->mi.real=true->D.ng<=mi.bZ
def bW (M:Pm D) (lo hi:Nat):Prop:=∀b,lo<=b->b<hi->M.pl b=none
def LJ (H:Hp D) (M:Pm D) (c:Nat):Prop:=∃b o a,H b=some o/\o.wr/\M.pl b=some a/\a.real/\a.bZ=c
structure cP (H:Hp D) (M:Pm D) (w:World) (H':Hp D) (M':Pm D) (w':World) (lo hi:Nat):Prop where
 fJ:dX M' H' w'
 ext:∀b,¬(lo<=b/\b<hi)->M'.pl b=M.pl b
 Jn:yv M M'
 lK:∀b o,M'.sg b o≠none->M.sg b o≠none\/w.heap.size<=b\/LJ H M b
 size:w.heap.size<=w'.heap.size
 aR:∀c,c<w.heap.size->¬LJ H M c->w'.heap[c]?=w.heap[c]?
 born:∀b o mi,H' b=some o->M'.pl b=some mi->mi.real=true->w.heap.size<=mi.bZ\/∃b0 o0 rk,H b0=some o0/\M.pl b0=some rk/\rk.real=true/\rk.bZ=mi.bZ/\(o.wr=true->o0.wr=true)
 LK:∀b,H' b≠none->H b≠none\/(lo<=b/\b<hi)
 os:w'.os=w.os
 tape:w'.tape=w.tape
 output:w'.output=w.output
 le:lo<=hi
section
variable {H H' H'':Hp D} {M M' M'':Pm D} {w w' w'':World} {lo mid hi:Nat}
variable {b o:Nat}
def cP.Le (h:cP H M w H' M' w' lo hi) (d:bW M lo hi):sx.Le M M':=⟨λb e a=>by
 rw[h.ext b (λc=>by rw[d b c.1 c.2] at a;cases a)];exact a,h.Jn⟩
theorem cP.refl (h:dX M H w) (lo:Nat):cP H M w H M w lo lo:=
 ⟨h,λ_ _=>rfl,λ_ _ _ h=>h,λ_ _ h=>.inl h,Zah _,λ_ _ _=>rfl,λb o e a c d=>.inr ⟨b,o,e,a,c,d,rfl,id⟩,λf a=>.inl a,rfl,rfl,rfl,Zah _⟩
def cP.wrt (h:cP H M w H' M' w' lo hi) (j:LJ H' M' b):w.heap.size<=b\/LJ H M b:=by
 obtain⟨c,o,p,i,m,l,n,rfl⟩:=j;rcases h.born c o p i l n with hs | ⟨g,q,f,a,d,e,k,hw⟩
 ·omega
 ·exact .inr ⟨g,q,f,a,hw m,d,e,k⟩
theorem cP.trans (h:cP H M w H' M' w' lo mid) (k:cP H' M' w' H'' M'' w'' mid hi):cP H M w H'' M'' w'' lo hi:=by
 have h1:=h.le;have m:=k.le;refine⟨k.fJ,λb d=>?_,λb o v e=>k.Jn _ _ _ (h.Jn _ _ _ e),λb o d=>?_,Zav h.size k.size,λc l s=>?_,λb o y d q t=>?_,λb d=>?_,k.os.trans h.os,k.tape.trans h.tape,k.output.trans h.output,Zav h1 m⟩
 ·rw[k.ext b ω,h.ext b ω]
 ·rcases k.lK b o d with a | a | a
  ·exact h.lK b o a
  ·exact .inr (.inl (Zav h.size a))
  ·exact .inr (h.wrt a)
 ·rw[k.aR c (ZbB l h.size) λhw=>?_,h.aR c l s];rcases h.wrt hw with a | a
  ·omega
  ·grind
 ·rcases k.born b o y d q t with hs | ⟨b1,A,j,lD,g,i,p,x⟩
  ·exact .inl (Zav h.size hs)
  ·rcases h.born b1 A j lD g i with hs | ⟨B,D,z,n,r,u,C,hw⟩
   ·omega
   ·grind
 ·rcases k.LK b d with lD | lD
  ·rcases h.LK b lD with f | f
   ·grind
   ·omega
  ·omega
theorem cP.frame {K z:Hp D} (h:cP K M w z M' w' lo hi) (r:dX M H w) (Z:bW M lo hi) (O:∀b o,K b=some o->H b=some o) (N:∀b,H' b=if K b=none/\z b=none then H b else z b):
  cP H M w H' M' w' lo hi:=by
 have k:=h.Le Z;have P:∀b o,H b=some o->∃a,M.pl b=some a:=λb o d=>let ⟨a,g,_⟩:=r.obj b o d;⟨a,g⟩
 have Q:∀c,LJ K M c->LJ H M c:=λc ⟨b,o,a,d,Y⟩=>⟨b,o,a,O _ _ d,Y⟩
 have p:∀b o,H' b=some o->(z b=some o)\/(K b=none/\z b=none/\H b=some o):=by
  grind
 have S:∀b o a,H b=some o->K b=none->M.pl b=some a->a.real->¬LJ K M a.bZ:=by
  rintro b o a d hk g l ⟨n,u,i,s,_,m,q,e⟩;have:=r.inj n b u o i a (O _ _ s) d m g q l e;grind
 have hold:∀b o a,H b=some o->K b=none->M.pl b=some a->a.real->w'.heap[a.bZ]?=w.heap[a.bZ]?:=by
  intro b o a d hk g l;have⟨i,m,x⟩:=r.obj b o d;rw[g] at m;cases m;exact h.aR _ (x.lt l) (S b o a d hk g l)
 refine⟨⟨λb o d=>?_,λb n o u a i d s g m l q L=>?_,h.fJ.gL,λb o a d x g l j V=>?_,λb c xs e a d g l=>?_,h.fJ.mb.1,λb o a d x g l=>?_⟩,h.ext,h.Jn,λb o d=>?_,h.size,λc R hn=>?_,λb o a d g l=>?_,λb d=>?_,h.os,h.tape,h.output,h.le⟩
 ·rcases p b o d with hk | ⟨hk,_,d⟩
  ·exact h.fJ.obj b o hk
  ·have⟨a,g,x⟩:=r.obj b o d;exact⟨a,k.1 _ _ g,x.mono k (hold b o a d hk g)⟩
 ·have W:∀b n o u a i,z b=some o->(K n=none/\z n=none/\H n=some u)->M'.pl b=some a->M'.pl n=some i->a.real->i.real->a.bZ=i.bZ->b=n:=by
   intro b n o u a i hk ⟨hk1,hk2,s⟩ g m l q L;have⟨t,f,A⟩:=r.obj n u s;have:=k.1 _ _ f;rw[m] at this;cases this;rcases h.born b o a hk g l with hs | ⟨T,X,J,C,F,I,E,_⟩
   ·have:=A.lt q;omega
   ·have e2:=r.inj T n X u J i (O _ _ C) s F f I q (E.trans L);grind
  rcases p b o d with hk | hk<;>rcases p n u s with y | y
  ·exact h.fJ.inj b n o u a i hk y g m l q L
  ·grind
  ·grind
  ·have⟨t,f,_⟩:=r.obj b o hk.2.2;have⟨mi3,G,_⟩:=r.obj n u y.2.2;have e2:=k.1 _ _ f;have U:=k.1 _ _ G;rw[g] at e2;rw[m] at U;cases e2;cases U;exact r.inj b n o u a i hk.2.2 y.2.2 f G l q L
 ·rcases p b o d with hk | ⟨hk,_,d⟩
  ·exact h.fJ.sep b o a hk x g l j V
  ·have⟨t,f,A⟩:=r.obj b o d;have e2:=k.1 _ _ f;rw[g] at e2;cases e2;cases hs:M'.sg a.bZ j with
   | none=>rfl
   | some v=>
    exfalso;rcases h.lK a.bZ j (by grind) with B | B | B
    ·exact B (r.sep b o a d x f l j V)
    ·have:=A.lt l;omega
    ·grind
 ·rcases p b _ d with hk | ⟨hk,_,d⟩
  ·exact h.fJ.Jm b c xs e a hk g l
  ·have⟨t,f⟩:=P b _ d;have e2:=k.1 _ _ f;rw[g] at e2;cases e2;exact(r.Jm b c xs e a d f l).mono k.2
 ·rcases p b o d with hk | ⟨hk,_,d⟩
  ·exact h.fJ.mb.2 b o a hk x g l
  ·have⟨t,f⟩:=P b o d;have e2:=k.1 _ _ f;rw[g] at e2;cases e2;exact r.mb.2 b o a d x f l
 ·rcases h.lK b o d with B | B | B
  ·grind
  ·omega
  ·grind
 ·exact h.aR c R λhw=>hn (Q _ hw)
 ·rcases p b o d with hk | ⟨hk,_,d⟩
  ·rcases h.born b o a hk g l with hs | ⟨T,X,J,C,F,I,E,hw⟩
   ·omega
   ·grind
  ·have⟨t,f⟩:=P b o d;have e2:=k.1 _ _ f;grind
 ·rw[N b] at d;by_cases R:K b=none/\z b=none
  ·grind
  ·rw[Zaa R] at d;rcases h.LK b d with hk | hk
   ·have⟨o,x⟩:=Zbs.1 hk;grind
   ·omega
theorem gi {w a:World} (h:a.heap[b]?=w.heap[b]?):a.cell? ⟨b,o,none⟩=w.cell? ⟨b,o,none⟩:=by
 grind [World.cell?]
theorem dX.slt (a:dX M H w) {v:AV D.E} (h:M.sg b o=some v):b<w.heap.size:=by
 have⟨_,d,c,_⟩:=a.gL b o v h;grind [World.cell?]
def cP.world (a:dX M H w) (h1:w.heap.size<=w'.heap.size) (g:∀c,c<w.heap.size->w'.heap[c]?=w.heap[c]?) (m:w'.os=w.os) (n:w'.tape=w.tape) (p:w'.output=w.output) (lo:Nat):cP H M w H M w' lo lo:=
 ⟨⟨λb o d=>let ⟨k,i,l⟩:=a.obj b o d;⟨k,i,l.mono (.refl M) λj=>g _ (l.lt j)⟩,a.inj,λb o v e=>let ⟨q,s,f,r⟩:=a.gL b o v e;⟨q,s,(gi (g _ (a.slt e))).trans f,r⟩,a.sep,a.Jm,⟨Zav a.mb.1.1 h1,D.gst _ _ (λc f=>g c (ZbB f a.mb.1.1)) a.mb.1.2⟩,a.mb.2⟩,
  λ_ _=>rfl,λ_ _ _ h=>h,λ_ _ h=>.inl h,h1,λc f _=>g c f,λb o k d i j=>.inr ⟨b,o,k,d,i,j,rfl,id⟩,λt d=>.inl d,m,n,p,Zah _⟩
def cP.u_ (a:dX M H w) (lo:Nat):cP H M w H M w.drew lo lo:=.world (w':=w.drew) a (Zah _) (λ_ _=>rfl) rfl rfl rfl lo
def jc (H:Hp D) (b:Nat) (o:Option (AO D.E)):Hp D:=λc=>if c=b then o else H c
def Pm.add (M:Pm D) (b:Nat) (mi:MI):Pm D:=⟨λc=>if c=b then some mi else M.pl c,M.sg⟩
def Pm.qD {mi:MI} (d:M.pl b=none):sx.Le M (M.add b mi):=⟨λc m a=>by
 show(if c=b then some mi else M.pl c)=some m
 by_cases e:c=b
 ·subst e;rw[d] at a;cases a
 ·rw[Zaa e];exact a,λ_ _ _ h=>h⟩
theorem cP.nv (a:dX M H w) (C:M.pl lo=none) (o:AO D.E) (mi:MI) (t:mi.real->mi.bZ=w.heap.size) (dd:w.heap.size<=w'.heap.size) (hblk:∀c,c<w.heap.size->w'.heap[c]?=w.heap[c]?)
  (x:w'.os=w.os) (y:w'.tape=w.tape) (z:w'.output=w.output) (I:OR (M.add lo mi) o mi w')
  (L:∀c xs e,o=.arr c xs e true->mi.real->cx (M.add lo mi) mi.bZ mi.sh c xs:=by intro _ _ _ h;cases h):
  cP H M w (jc H lo (some o)) (M.add lo mi) w' lo (lo+1):=by
 have f:sx.Le M (M.add lo mi):=Pm.qD C;have k:∀m,(M.add lo mi).pl lo=some m->m=mi:=λm h=>by grind [Pm.add]
 have hold:∀b m,b≠lo->(M.add lo mi).pl b=some m->M.pl b=some m:=λb m e h=>by grind [Pm.add]
 refine⟨⟨λb i h=>?_,λb r O P m1 m2 h1 s u e2 Q R B=>?_,λb i v e=>?_,λb i m h hw e d j F=>?_,λb c xs e m h n d=>?_,⟨Zav a.mb.1.1 dd,D.gst _ _ (λc l=>hblk c (ZbB l a.mb.1.1)) a.mb.1.2⟩,λb i m h hw e d=>?_⟩,λb A=>?_,f.2,λb i h=>.inl h,dd,λc l _=>hblk c l,λb i m h e d=>?_,λb h=>?_,x,y,z,ZcR _⟩
 ·by_cases e:b=lo
  ·subst e;simp only[jc] at h;cases h;exact⟨mi,by simp[Pm.add],I⟩
  ·simp only[jc,Zaa e] at h;have⟨m,n,g⟩:=a.obj b i h;exact⟨m,f.1 _ _ n,g.mono f λd=>hblk _ (g.lt d)⟩
 ·have G:∀b o m,b≠lo->H b=some o->M.pl b=some m->m.real->mi.real->m.bZ≠mi.bZ:=λb o m e h n d K=>by
   have⟨T,p,g⟩:=a.obj b o h;rw[n] at p;cases p;have:=g.lt d;grind
  by_cases e:b=lo<;>by_cases q:r=lo
  ·rw[e,q]
  ·grind [jc]
  ·grind [jc]
  ·simp only[jc,Zaa e,Zaa q] at h1 s;exact a.inj b r O P m1 m2 h1 s (hold _ _ e u) (hold _ _ q e2) Q R B
 ·have⟨J,S,l,N⟩:=a.gL b i v e;exact⟨J,S,(gi (hblk _ (a.slt e))).trans l,N.mono f⟩
 ·by_cases e2:b=lo
  ·subst e2;have:=k _ e;subst this;cases hs:M.sg m.bZ j with
   | none=>exact hs
   | some v=>have:=a.slt hs;have:=t d;omega
  ·simp only[jc,Zaa e2] at h;exact a.sep b i m h hw (hold _ _ e2 e) d j F
 ·by_cases e2:b=lo
  ·grind [jc]
  ·simp only[jc,Zaa e2] at h;exact(a.Jm b c xs e m h (hold _ _ e2 n) d).mono f.2
 ·by_cases e2:b=lo
  ·subst e2;have:=k _ e;subst this;rw[t d];exact a.mb.1.1
  ·simp only[jc,Zaa e2] at h;exact a.mb.2 b i m h hw (hold _ _ e2 e) d
 ·show(if b=lo then some mi else M.pl b)=M.pl b
  grind
 all_goals grind [jc]
theorem cP.alloc (b:dX M H w) (g:M.pl lo=none) (o:AO D.E) (ob:Obj) (mi:MI) (d:mi.bZ=w.heap.size) (i:OR (M.add lo mi) o mi (w.alloc ob))
  (a:∀c xs e,o=.arr c xs e true->mi.real->cx (M.add lo mi) mi.bZ mi.sh c xs:=by intro _ _ _ h;cases h):
  cP H M w (jc H lo (some o)) (M.add lo mi) (w.alloc ob) lo (lo+1):=
 cP.nv b g o mi (λ_=>d) (by simp) (λc f=>Below.heap_alloc _ _ _ f) rfl rfl rfl i a
theorem cP.upon {b0 b1:Nat} {o0 o1:AO D.E} {rk Bd:MI} {M1:Pm D} {sg1:Nat->Nat->Option (AV D.E)} (i:dX M H w) (y:H b0=some o0) (t:o0.wr) (A:M.pl b0=some rk) (l:rk.real) (hr1:Bd.real) (hblk:Bd.bZ=rk.bZ)
  (r:M1=⟨λc=>if c=b1 then some Bd else M.pl c,sg1⟩)
  (Z:(b1=b0/\Bd=rk/\hi=lo)\/(b1=lo/\M.pl lo=none/\hi=lo+1))
  (B:∀b o v,M.sg b o=some v->sg1 b o=some v) (k:∀b o,sg1 b o≠none->M.sg b o≠none\/b=rk.bZ)
  (dd:w'.heap.size=w.heap.size) (hk:∀c,c≠rk.bZ->w'.heap[c]?=w.heap[c]?) (U:w'.os=w.os) (V:w'.tape=w.tape) (W:w'.output=w.output)
  (ho:OR M1 o1 Bd w') (hse:∀o v,sg1 rk.bZ o=some v->ml v/\∃C,w'.cell? ⟨rk.bZ,o,none⟩=some C/\VR M1 v C) (R:o1.wr->∀j,o1.sO Bd j->sg1 Bd.bZ j=none)
  (hro:∀c xs e,o1=.arr c xs e true->cx M1 Bd.bZ Bd.sh c xs:=by intro _ _ _ h;cases h):
  cP H M w (λc=>if c=b1 then some o1 else if c=b0 then none else H c) M1 w' lo hi:=by
 have Q:b1≠b0->M.pl b1=none:=λe=>by
  grind
 have g:sx.Le M M1:=by
  subst r;refine⟨λc m z=>?_,B⟩;grind
 have J:∀m,M1.pl b1=some m->m=Bd:=λm h=>by simp_all
 have d:∀c m,c≠b1->M1.pl c=some m->M.pl c=some m:=λc m e h=>by subst r;simpa [e] using h
 have f:∀c a,c≠b1->(if c=b1 then some o1 else if c=b0 then none else H c)=some a->H c=some a/\c≠b0:=λc a e h=>by
  grind
 have N:∀c a m,H c=some a->c≠b0->M.pl c=some m->m.real->m.bZ≠rk.bZ:=λc a m h e s p K=>e (i.inj c b0 a o0 m rk h y s A p l K)
 have n:M1.sg=sg1:=by grind
 refine⟨⟨λc a h=>?_,λc F p1 p2 m1 m2 h1 I S e2 r1 r2 K=>?_,λb o v e=>?_,λc a m h hw e p j X=>?_,λb c xs e m h L p=>?_,⟨by rw[dd];exact i.mb.1.1,D.gst _ _ (λc z=>hk c (λq=>by have:=i.mb.2 b0 o0 rk y t A l;omega)) i.mb.1.2⟩,λc a m h hw e p=>?_⟩,λc z=>?_,g.2,λb o h=>?_,Zd1 dd.symm,λc z Y=>hk c λe=>Y ⟨b0,o0,rk,y,t,A,l,e.symm⟩,λc a m h e p=>?_,λc h=>?_,U,V,W,?_⟩
 ·by_cases e:c=b1
  ·rw[Zac e] at h;cases h;exact⟨Bd,by subst r;simp[e],ho⟩
  ·have⟨h1,I⟩:=f c a e h;have⟨m,s,O⟩:=i.obj c a h1;exact⟨m,g.1 _ _ s,O.mono g λp=>hk _ (N c a m h1 I s p)⟩
 ·by_cases e:c=b1<;>by_cases G:F=b1
  ·rw[e,G]
  ·grind
  ·grind
  ·have⟨q1,P⟩:=f c p1 e h1;have⟨q3,q4⟩:=f F p2 G I;exact i.inj c F p1 p2 m1 m2 q1 q3 (d _ _ e S) (d _ _ G e2) r1 r2 K
 ·rw[n] at e;by_cases T:b=rk.bZ
  ·grind
  ·rcases k b o (by grind) with x | x
   ·have⟨u,hu⟩:=Zbs.1 x;have:=B _ _ _ hu;rw[e] at this;cases this;have⟨hp,C,z,hv⟩:=i.gL b o v hu;exact⟨hp,C,(gi (hk _ T)).trans z,hv.mono g⟩
   ·omega
 ·rw[n];by_cases e2:c=b1
  ·grind
  ·have⟨q1,P⟩:=f c a e2 h;cases hs:sg1 m.bZ j with
   | none=>rfl
   | some v=>
    exfalso;rcases k m.bZ j (by grind) with x | x
    ·exact x (i.sep c a m q1 hw (d _ _ e2 e) p j X)
    ·grind
 ·by_cases e2:b=b1
  ·grind
  ·have⟨q1,P⟩:=f b _ e2 h;exact(i.Jm b c xs e m q1 (d _ _ e2 L) p).mono g.2
 ·by_cases e2:c=b1
  ·subst e2;have:=J _ e;subst this;rw[hblk];exact i.mb.2 b0 o0 rk y t A l
  ·have⟨q1,P⟩:=f c a e2 h;exact i.mb.2 c a m q1 hw (d _ _ e2 e) p
 ·subst r;grind
 ·rw[n] at h;rcases k b o h with x | x
  ·grind
  ·exact .inr (.inr ⟨b0,o0,rk,y,t,A,l,x.symm⟩)
 ·grind
 ·grind
 ·omega
theorem cP.drop (g:dX M H w) (lo:Nat):cP H M w (jc H b none) M w lo lo:=by
 have d:∀a f,jc H b none a=some f->H a=some f:=λa f h=>by
  grind [jc]
 exact⟨⟨λa f h=>g.obj a f (d a f h),λa i n f m1 m2 h1 j=>g.inj a i n f m1 m2 (d _ _ h1) (d _ _ j),g.gL,λa f m h=>g.sep a f m (d _ _ h),λa c xs e m h=>g.Jm a c xs e m (d _ _ h),g.mb.1,λa f m h=>g.mb.2 a f m (d _ _ h)⟩,λ_ _=>rfl,λ_ _ _ h=>h,λ_ _ h=>.inl h,Zah _,λ_ _ _=>rfl,
  λa f m h e l=>.inr ⟨a,f,m,d _ _ h,e,l,rfl,id⟩,λa h=>.inl (by have⟨o,k⟩:=Zbs.1 h;rw[d _ _ k];simp),rfl,rfl,rfl,Zah _⟩
def dX.sub {K:Hp D} (h:dX M H w) (f:∀b o,K b=some o->H b=some o):dX M K w:=
 ⟨λb o a=>h.obj b o (f b o a),λb j o k d i a g=>h.inj b j o k d i (f _ _ a) (f _ _ g),h.gL,λb o d a=>h.sep b o d (f _ _ a),λb c xs e d a=>h.Jm b c xs e d (f _ _ a),h.mb.1,λb o d a=>h.mb.2 b o d (f _ _ a)⟩
end
end
variable {k:IntKind} {x:Int} {m:Nat}
theorem qE (x y:Int):V8 x y=(x==y):=by
 cases x<;>cases y<;>rw[ZaG]<;>simp[V8,-Int.ofNat_eq_natCast]<;>try exact ZbW
theorem Fw (x y:Int):Wj x y=decide (x<y):=by
 rw[ZaG,ZbP];cases x with
 | ofNat a=>cases y with
  | ofNat b=>show Nat.ble (a+1) b↔_;rw[cu];simp;omega
  | negSucc b=>simp[Wj];omega
 | negSucc a=>cases y with
  | ofNat b=>simp[Wj];omega
  | negSucc b=>show Nat.ble (b+1) a↔_;rw[cu];omega
theorem fV {b:IntKind}:AW k b↔k=b:=by
 cases k<;>cases b<;>decide
theorem gj {v:CV}:Fe k x=some v↔v=.num k x:=by
 cases x with
 | ofNat m=>cases m with
  | zero=>exact⟨λh=>by cases(show some (CV.num k (.ofNat 0))=some v from h);rfl,λh=>by rw[h];rfl⟩
  | succ m=>exact⟨λh=>by cases(show some (CV.num k (.ofNat (m+1)))=some v from h);rfl,λh=>by rw[h];rfl⟩
 | negSucc m=>cases m with
  | zero=>exact⟨λh=>by cases(show some (CV.num k (.negSucc 0))=some v from h);rfl,λh=>by rw[h];rfl⟩
  | succ m=>exact⟨λh=>by cases(show some (CV.num k (.negSucc (m+1)))=some v from h);rfl,λh=>by rw[h];rfl⟩
theorem rA {v:CV}:mkN m=some v↔v=.num .i64 (m:Int):=by
 cases m with
 | zero=>exact⟨λh=>by cases(show some (CV.num .i64 (.ofNat 0))=some v from h);rfl,λh=>by rw[h];rfl⟩
 | succ n=>exact⟨λh=>by cases(show some (CV.num .i64 (.ofNat (n+1)))=some v from h);rfl,λh=>by rw[h];rfl⟩
theorem Jo (k:IntKind) (n:Int) (h1: -(kLo k:Int)<=n) (a:n<=(kHi k:Int)):k.wrap n=n:=by
 cases k<;>simp only[kLo,kHi] at h1 a
 ·grind [IntWalk.i8_in]
 ·grind [IntWalk.i16_in]
 ·grind [IntWalk.i32_in]
 ·grind [IntWalk.i64_in]
 ·grind [IntWalk.u8_in]
 ·grind [IntWalk.u16_in]
 ·grind [IntWalk.u32_in]
 ·grind [IntWalk.u64_in]
theorem jE (k:IntKind) (n:Int):rp k n=k.wrap n:=by
 cases n with
 | ofNat m=>
  show Bool.rec (motive:=λ_=>Int) (k.wrap (.ofNat m)) (.ofNat m) (Nat.ble m (kHi k))=_
  cases h:Nat.ble m (kHi k)
  ·rfl
  ·grind [cu,Jo]
 | negSucc m=>
  show Bool.rec (motive:=λ_=>Int) (k.wrap (.negSucc m)) (.negSucc m) (Nat.ble (m+1) (kLo k))=_
  cases h:Nat.ble (m+1) (kLo k)
  ·rfl
  ·grind [cu,Jo]
def Jp (k:IntKind):ur k=2 ^ k.bits:=by cases k<;>rfl
theorem kI (k:IntKind) (n:Int):Cv k n=(BitVec.ofInt k.bits n).toNat:=by
 rw[BitVec.toNat_ofInt];cases n with
 | ofNat m=>
  show Nat.mod m (ur k)=_
  rw[Jp];rfl
 | negSucc m=>
  show Nat.sub (Nat.sub (ur k) 1) (Nat.mod m (ur k))=_
  have a:0<2 ^ k.bits:=Nat.two_pow_pos _;have b:m % 2 ^ k.bits<2 ^ k.bits:=Zc4 _ a;rw[Jp];show 2 ^ k.bits-1-m % 2 ^ k.bits=_
  have e:(Int.negSucc m) % ((2 ^ k.bits:Nat):Int)=((2 ^ k.bits-1-m % 2 ^ k.bits:Nat):Int):=by
   rw[Int.negSucc_emod _ ω];omega
  omega
theorem Be (a b:Nat):Oi a b=min a b:=by
 show Bool.rec (motive:=λ_=>Nat) b a (Nat.ble a b)=_
 cases h:Nat.ble a b
 ·grind [CI]
 ·simp_all
def N8 (v:CV):Value:=match v with
 | .num k n=>.int k n
 | .lit b=>.bool b
theorem cH:jv k x↔Cp k<=x/\x<=sJ k:=by simp[jv,aI]
theorem cE (k:IntKind) (n:Int):jv k (k.wrap n):=by
 rw[cH];cases k<;>simp only[Cp,sJ,IntKind.wrap,IntKind.bits,IntKind.signed]<;>simp<;>(try split)<;>omega
theorem dE (h:jv k x):k.wrap x=x:=by
 rw[cH] at h;cases k<;>simp only[Cp,sJ] at h
 ·exact IntWalk.i8_in x h
 ·exact IntWalk.i16_in x h
 ·exact IntWalk.i32_in x h
 ·exact IntWalk.i64_in x h
 ·exact IntWalk.u8_in x h
 ·exact IntWalk.u16_in x h
 ·exact IntWalk.u32_in x h
 ·exact IntWalk.u64_in x h
theorem jw (h:m<=9223372036854775807):jv .i64 (m:Int):=by grind [cH,Cp,sJ]
def rB (b:UInt8):jv .u8 (b.toNat:Int):=by rw[cH];simp only[Cp,sJ];have:=b.toNat_lt;omega
theorem CL {y:Int} (h:jv k x):jv k (Int.tmod x y):=by
 rw[cH] at*
 have h0:Cp k<=0/\0<=sJ k:=by cases k<;>simp[Cp,sJ]
 rcases Int.le_total 0 x with b | b
 ·have h1:=Int.tmod_nonneg y b;have d:Int.tmod x y<=x:=by
   rcases Int.natAbs_eq y with a | a
   ·rw[a,Zcc b];rcases ZbO y.natAbs with h0 | h0
    ·grind
    ·have:=ZcM x (show(0:Int)<y.natAbs by omega);by_cases c:x<y.natAbs
     ·grind [Int.emod_eq_of_lt]
     ·omega
   ·rw[a,Int.tmod_neg,Zcc b];rcases ZbO y.natAbs with h0 | h0
    ·grind
    ·have:=ZcM x (show(0:Int)<y.natAbs by omega);by_cases c:x<y.natAbs
     ·grind [Int.emod_eq_of_lt]
     ·omega
  omega
 ·obtain⟨z,rfl⟩:∃z,x= -z:=⟨-x,ω⟩;rw[Int.neg_tmod];have hz:0<=z:=ω;have h1:=Int.tmod_nonneg y hz;have d:Int.tmod z y<=z:=by
   rcases Int.natAbs_eq y with a | a
   ·rw[a,Zcc hz];rcases ZbO y.natAbs with h0 | h0
    ·grind
    ·have:=ZcM z (show(0:Int)<y.natAbs by omega);by_cases c:z<y.natAbs
     ·grind [Int.emod_eq_of_lt]
     ·omega
   ·rw[a,Int.tmod_neg,Zcc hz];rcases ZbO y.natAbs with h0 | h0
    ·grind
    ·have:=ZcM z (show(0:Int)<y.natAbs by omega);by_cases c:z<y.natAbs
     ·grind [Int.emod_eq_of_lt]
     ·omega
  omega
theorem Jq (h:jv k x) (h0:0<=x):jv k (x / 2 ^ m):=by
 rw[cH] at*
 have h1:0<=x / 2 ^ m:=Int.ediv_nonneg h0 (by grind);have a:x / 2 ^ m<=x:=Int.ediv_le_self _ h0;have b:Cp k<=0:=by cases k<;>simp[Cp]
 omega
section
variable {P:Program} {D:Data} {M:Pm D}
variable {Z:BinOp} {k d:IntKind} {v:CV} {x y:Int} {Y:AV D.E}
theorem Qfa (h:∀k n,v=.num k n->jv k n):VR M (vV v:AV D.E) (N8 v):=by
 cases v with
 | num k n=>exact .num (h k n rfl)
 | lit b=>exact .lit b
theorem OV (h:(Wq D Z k x y).H Y) (i:jv k x) (T:TypeId) (h1:Z≠.shl) (f:Z≠.shr):
  ∃d,(∀w,(binOp Z T (.int k x) (.int k y)).run P w=.ok d w)/\VR M Y d:=by
 cases Z<;>simp only[Wq] at h<;>(try exact absurd rfl h1)<;>(try exact absurd rfl f)<;>(try exact h.elim)
 case add=>cases av.1 h;exact⟨_,λw=>by simp[binOp,Op.intArith];rfl,.int (cE _ _)⟩
 case sub=>cases av.1 h;exact⟨_,λw=>by simp[binOp,Op.intArith];rfl,.int (cE _ _)⟩
 case mul=>cases av.1 h;exact⟨_,λw=>by simp[binOp,Op.intArith];rfl,.int (cE _ _)⟩
 case quo=>
  obtain⟨h0,h⟩:=cX.1 h;cases av.1 h;have c:y≠0:=by grind [aC]
  exact⟨_,λw=>by simp[binOp,Op.intDiv,c];rfl,.int (cE _ _)⟩
 case rem=>
  obtain⟨h0,h⟩:=cX.1 h;cases av.1 h;have c:y≠0:=by grind [aC]
  exact⟨_,λw=>by simp[binOp,Op.intDiv,c];rfl,.int (CL i)⟩
 case and=>cases av.1 h;exact⟨.int k (k.wrap ((BitVec.ofInt k.bits x&&& BitVec.ofInt k.bits y).toNat:Int)),λw=>by grind [binOp,Op.intBits,Sem.run_pure],by rw[BitVec.toNat_and,<-kI,<-kI];exact .int (cE _ _)⟩
 case or=>cases av.1 h;exact⟨.int k (k.wrap ((BitVec.ofInt k.bits x||| BitVec.ofInt k.bits y).toNat:Int)),λw=>by grind [binOp,Op.intBits,Sem.run_pure],by rw[BitVec.toNat_or,<-kI,<-kI];exact .int (cE _ _)⟩
 case xor=>cases av.1 h;exact⟨.int k (k.wrap ((BitVec.ofInt k.bits x ^^^ BitVec.ofInt k.bits y).toNat:Int)),λw=>by grind [binOp,Op.intBits,Sem.run_pure],by rw[Zdu,<-kI,<-kI];exact .int (cE _ _)⟩
 all_goals
  cases av.1 h;refine⟨_,λw=>by simp only[binOp,Op.intCmp,ne_eq,Zce,Za0,Zzc];rfl,?_⟩;have g:∀a b:Bool,a=b->VR M (.bool a:AV D.E) (.bool b):=λa b e=>e▸.bool a
  apply g;rfl
theorem CM (h:(Wr D Z k d x y).H Y) (f:jv k x) (T:TypeId):
  ∃g,(∀w,(binOp Z T (.int k x) (.int d y)).run P w=.ok g w)/\VR M Y g:=by
 by_cases h1:Z=.shl
 ·subst h1;obtain⟨h0,a⟩:=cX.1 (show(ask (aI 0 y) _).H Y from h);cases av.1 a;have:¬y<0:=by grind [aI]
  exact⟨_,λw=>by simp only[binOp,Op.shift,Zaa this,Zzc];rfl,.int (cE _ _)⟩
 ·by_cases a:Z=.shr
  ·subst a;obtain⟨h0,b⟩:=cX.1 (show(ask (aI 0 y) _).H Y from h);obtain⟨l,j⟩:=cX.1 (show(ask (aI 0 x) _).H Y from b);cases av.1 j;have:¬y<0:=by grind [aI]
   have c:0<=x:=by grind [aI]
   refine⟨.int k (x.fdiv (2 ^ min y.toNat k.bits)),λw=>by grind [binOp,Op.shift,Sem.run_pure],?_⟩;rw[Zdi _ (by grind)];exact .int (Jq f c)
  ·have i:(bB (AW k d) (Wq D Z k x y)).H Y:=by
    cases Z<;>first | exact h | exact absurd rfl h1 | exact absurd rfl a
   obtain⟨e,b⟩:=bz.1 i;obtain rfl:=fV.1 e;exact OV b f T h1 a
theorem pD {n:Nat} (h:LC k n=some v):v=.num k (k.wrap n):=by
 grind [LC,gj,jE]
theorem OW (h:Wl Z k x y=some v) (c:jv k x) (T:TypeId) (h1:Z≠.shl) (b:Z≠.shr):
  (∀w,(binOp Z T (.int k x) (.int k y)).run P w=.ok (N8 v) w)/\∀a n,v=.num a n->jv a n:=by
 cases Z<;>simp only[Wl] at h<;>(try cases h)<;>(try exact absurd rfl h1)<;>(try exact absurd rfl b)
 case add=>rw[gj,jE] at h;subst h;exact⟨λw=>by simp[binOp,Op.intArith,N8],λ_ _ e=>by grind [cE]⟩
 case sub=>rw[gj,jE] at h;subst h;exact⟨λw=>by simp[binOp,Op.intArith,N8];rfl,λ_ _ e=>by grind [cE]⟩
 case mul=>rw[gj,jE] at h;subst h;exact⟨λw=>by simp[binOp,Op.intArith,N8],λ_ _ e=>by grind [cE]⟩
 case quo=>
  rw[Bc] at h;rcases h with⟨_,h⟩ | ⟨h0,h⟩
  ·cases h
  ·rw[gj,jE] at h;subst h;rw[qE] at h0;have:y≠0:=by grind
   exact⟨λw=>by simp[binOp,Op.intDiv,this,N8],λ_ _ e=>by grind [cE]⟩
 case rem=>
  rw[Bc] at h;rcases h with⟨_,h⟩ | ⟨h0,h⟩
  ·cases h
  ·rw[gj] at h;subst h;rw[qE] at h0;have:y≠0:=by grind
   exact⟨λw=>by simp[binOp,Op.intDiv,this,N8],λ_ _ e=>by grind [CL]⟩
 case and=>have:=pD h;subst this;exact⟨λw=>by simp[binOp,Op.intBits,N8,kI,BitVec.toNat_and];try rfl,λ_ _ e=>by grind [cE]⟩
 case or=>have:=pD h;subst this;exact⟨λw=>by simp[binOp,Op.intBits,N8,kI,BitVec.toNat_or];try rfl,λ_ _ e=>by grind [cE]⟩
 case xor=>have:=pD h;subst this;exact⟨λw=>by simp[binOp,Op.intBits,N8,kI,Zdu];try rfl,λ_ _ e=>by grind [cE]⟩
 all_goals
  refine⟨λw=>?_,λ_ _ e=>by cases e⟩
  (simp[binOp,Op.intCmp,N8,qE,Fw];try rw[ZaG];try simp;try omega)
theorem Fy (h:AX Z k d x y=some v) (f:jv k x) (T:TypeId):
  (∀w,(binOp Z T (.int k x) (.int d y)).run P w=.ok (N8 v) w)/\∀k2 n,v=.num k2 n->jv k2 n:=by
 by_cases h1:Z=.shl
 ·subst h1;simp only[AX] at h;cases y with
  | negSucc m=>cases h
  | ofNat m=>
   simp only[QeL] at h;rw[gj,jE,Be] at h;subst h;refine⟨λw=>?_,λ_ _ e=>by grind [cE]⟩;rfl
 ·by_cases a:Z=.shr
  ·subst a;simp only[AX] at h;cases y with
   | negSucc m=>cases h
   | ofNat m=>
    cases x with
    | negSucc x=>cases h
    | ofNat x=>
     simp only[QeM] at h;rw[gj,Be] at h;subst h;have e:Int.fdiv (Int.ofNat x) (2 ^ min (Int.ofNat m).toNat k.bits)=Int.ofNat (Nat.div x (Nat.pow 2 (min m k.bits))):=by
      show Int.fdiv (Int.ofNat x) (2 ^ min m k.bits)=_
      rw[show(2:Int) ^ min m k.bits=((2 ^ min m k.bits:Nat):Int) by simp,Zdi _ (ZaF _)];rfl
     refine⟨λw=>?_,λk2 n e2=>?_⟩
     ·have:¬((m:Int)<0):=ω;simp only[binOp,Op.shift];rw[Zaa (by simp),e];rfl
     ·grind [Jq]
  ·have c:oI (AW k d) (Wl Z k x y)=some v:=by
    cases Z<;>first | exact h | exact absurd rfl h1 | exact absurd rfl a
   obtain⟨e,b⟩:=lJ.1 c;obtain rfl:=fV.1 e;exact OW b f T h1 a
theorem bytesLess_eq:∀(x y:List UInt8),Op.bytesLess x y=decide (x<y)
 | [],[]=>by rfl
 | [],_::_=>by rfl
 | _::_,[]=>by rfl
 | a::x,b::y=>by
  show(a<b||(a==b&&Op.bytesLess x y))=_
  rw[bytesLess_eq x y,ZaG];simp[List.cons_lt_cons_iff]
theorem Fz {x y:List UInt8} (h:(A0 D Z x y).H Y) (T:TypeId):∃d,(∀w,(binOp Z T (.string ⟨⟨x⟩⟩) (.string ⟨⟨y⟩⟩)).run P w=.ok d w)/\VR M Y d:=by
 have hl:∀z:List UInt8,(⟨⟨z⟩⟩:ByteArray).toList=z:=λz=>by
  simp_all
 have c:∀a b:List UInt8,Bool.not (decide (b<a))=(decide (a<b)||(a==b)):=λa b=>by
  grind
 cases Z<;>simp only[A0] at h<;>(try exact h.elim)
 case add=>
  obtain⟨h0,h⟩:=cX.1 h;cases av.1 h;have h1:x.length+y.length<=9223372036854775807:=by
   have:((yr x y).length:Int)<=9223372036854775807:=ZaH h0;grind [yr]
  refine⟨.string ⟨⟨x++y⟩⟩,λw=>?_,.str (by grind [yr])⟩;have hs:¬((((⟨⟨x⟩⟩:ByteArray).size+(⟨⟨y⟩⟩:ByteArray).size:Nat):Int)>IntKind.i64.max):=by
   show ¬(((x.length+y.length:Nat):Int)>9223372036854775807)
   omega
  have g:(⟨⟨x⟩⟩:ByteArray)++⟨⟨y⟩⟩=⟨⟨x++y⟩⟩:=by
   rfl
  grind [binOp,Op.stringOp,Sem.run_pure]
 all_goals
  cases av.1 h;refine⟨_,λw=>by simp only[binOp,Op.stringOp,Zzc,hl,bytesLess_eq];rfl,?_⟩;have f:∀a b:Bool,a=b->VR M (.bool a:AV D.E) (.bool b):=λa b e=>e▸.bool a
  apply f;simp only[seq,slt]<;>first | rfl | (rw[ZaG];simp;done) | exact c _ _ | (rw[<-c];simp)
end
structure FR {D:Data} (M:Pm D) (φ:T (AV D.E)) (a:Act) (N:Nat):Prop where
 at_:∀t v,φ.get t=some v->VR M v (a.tmps.getD t Go.undef)
 size:a.tmps.size=N
 defers:a.defers=[]
theorem not_iff {b:Bool}:Bool.not b↔b=false:=by grind
theorem iG {a b:Bool}:Bool.and a b↔a/\b:=by grind
section
variable {P:Program} {D:Data} {M M':Pm D} {φ:T (AV D.E)} {a:Act} {N:Nat} {w:World} {H:Hp D} {s s':St D.E}
variable {b o j:Nat} {e:TypeId} {d:List (AV D.E)} {v y:AV D.E} {z:Value} {Z:MI} {X:TypeDesc} {W:Array Value} {l:AO D.E}
variable {V:List (D.E b)}
def FR.mono (h:FR M φ a N) (b:Le M M'):FR M' φ a N:=⟨λt v e=>(h.at_ t v e).mono b,h.size,h.defers⟩
theorem Jr (h:Oj z=some v):VR M v z:=by
 unfold Oj at h;split at h
 ·cases h;exact .lit _
 ·rename_i k n
  obtain⟨h1,a⟩:=lJ.1 h;cases a;rw[iG,not_iff,not_iff,Fw,Fw] at h1;exact .num (cH.2 ⟨by grind,by grind⟩)
 ·rename_i s
  obtain⟨h1,a⟩:=lJ.1 h;cases a;have b:=cu.1 h1;rw[hI] at b;have:VR M (.str s.data.toList:AV D.E) (.string ⟨⟨s.data.toList⟩⟩):=.str b;exact this
 ·cases h;exact .nilFunc
 ·cases h;exact .nilIface
 ·split at h
  ·cases h;exact .fC
  ·cases h
 ·split at h
  ·cases h;exact .qh
  ·cases h
 ·split at h
  ·obtain⟨h1,a⟩:=lJ.1 h;cases a;rw[iG,aN,aN] at h1;obtain⟨rfl,rfl⟩:=h1;exact .cW
  ·cases h
 ·split at h
  ·rename_i v y _ g
   obtain⟨h1,a⟩:=lJ.1 h;cases a;rw[iG,aN,aN,hI,hI] at h1;exact .func _ h1.1.symm (λi z c e=>by simp at e) h1.2.symm (λi z c e=>by simp at e)
  ·cases h
 ·cases h
theorem Bf:∀{l:List Value} {r:List (AV D.E)},Wo l=some r->LR M r l
 | [],r,h=>by cases(show some []=some r from h);exact .nil
 | v::l,r,h=>by
  obtain⟨x,d,h1⟩:=aH.1 (show oB (Oj v) (λa=>oB (Wo l) λr=>some (a::r))=some r from h);obtain⟨e,c,b⟩:=aH.1 h1;cases b;exact .cons (Jr d) (Bf c)
theorem OX (h:ofV z=some v):VR M v z:=by
 unfold ofV at h;split at h
 ·obtain⟨l,hl,h1⟩:=aH.1 h;cases h1;have:=Bf (M:=M) hl;exact .agg this.1 this.2
 ·obtain⟨l,hl,h1⟩:=aH.1 h;cases h1;have:=Bf (M:=M) hl;exact .tuple this.1 this.2
 ·exact Jr h
theorem dF {x:Operand} (h:(ev P D φ x).H v) (c:FR M φ a N):VR M v (a.eval x):=by
 cases x with
 | tmp t=>exact c.at_ t v (bC.1 h)
 | const u=>exact OX (bC.1 h)
 | global g=>
  obtain⟨_,b⟩:=bz.1 (show(bB (Nat.ble (g+1) P.globals.size) (.ret (.kF g 0))).H v from h);cases av.1 b;exact .kF g 0
 | func f=>
  cases av.1 (show(C.ret (.func (.func f) [] [])).H v from h);exact .func _ rfl (λi v d e=>by simp at e) rfl (λi v d e=>by simp at e)
theorem OY:∀{xs:List Operand} {b:List (AV D.E)},(Om P D φ xs).H b->FR M φ a N->LR M b (xs.map a.eval)
 | [],b,h,_=>by cases av.1 (show(C.ret []).H b from h);exact .nil
 | x::xs,b,h,hf=>by
  obtain⟨v,e,h1⟩:=an.1 (show(aA (ev P D φ x) λv=>aA (Om P D φ xs) λb=>.ret (v::b)).H b from h);obtain⟨us,c,d⟩:=an.1 h1;cases av.1 d;exact .cons (dF e hf) (OY c hf)
theorem pE (h:uu P e=some b):∃i,P.info? e=some i/\i.size=b:=by
 unfold uu at h;cases hi:P.info? e with
 | none=>rw[hi] at h;cases h
 | some i=>rw[hi] at h;cases h;exact⟨i,rfl,rfl⟩
theorem sP:(sz P e).H b↔uu P e=some b:=bC
def gT:(uv P e).H X↔P.underlying e=some X:=bC
theorem y7 (h:Wp P e=some b):∃i,P.info? e=some i/\i.bytes=b:=by
 unfold Wp at h;cases hi:P.info? e with
 | none=>rw[hi] at h;cases h
 | some i=>rw[hi] at h;cases h;exact⟨i,rfl,rfl⟩
theorem mm (h:(zeroOf P D e).H v):∃i a,P.info? e=some i/\i.zero=some a/\∀M:Pm D,VR M v a:=by
 obtain⟨i,hi,h1⟩:=an.1 h;grind [an,bC,OX]
def cJ (h:uu P e=some b) (w:World):(sizeOf e).run P w=.ok b w:=by
 obtain⟨i,hi,hk⟩:=pE h;simp[sizeOf,typeInfo,hi,hk]
def rC {i:TypeInfo} (hi:P.info? e=some i) (hz:i.zero=some z) (w:World):(zeroValue e).run P w=.ok z w:=by
 simp[zeroValue,typeInfo,hi,hz]
def vb (h:P.underlying e=some X) (w:World):(isAgg e).run P w=.ok (Qb9 X) w:=by
 cases X<;>simp[isAgg,Zza h,Qb9]
theorem OZ (b o n:Nat):Addr.add ⟨b,o,none⟩ n=⟨b,o+n,none⟩:=Addr.add_lit b o n
theorem ku (h:(j4 P D e d b).H v) (hl:LR M d W.toList):∃o,(∀w,(part e W b).run P w=.ok o w)/\VR M v o:=by
 obtain⟨cs,g,h1⟩:=an.1 h;rw[gT] at g;rcases gS.1 h1 with⟨f,c⟩ | ⟨f,c⟩
 ·obtain⟨k,hk,a⟩:=an.1 c;obtain⟨l,i,m⟩:=an.1 a;cases av.1 m;rw[sP] at hk;obtain⟨p,rfl⟩:=jf (bC.1 i);rw[mj] at*
  refine⟨.agg (W.extract b (b+k)),λw=>by simp[part,vb g,f,cJ hk],?_⟩;have t:(W.extract b (b+k)).toList=(W.toList.drop b).take k:=by
   simp_all
  exact .agg (by rw[t];exact((hl.drop b).take k).1) (by rw[t];exact((hl.drop b).take k).2)
 ·have a:=bC.1 c;rw[fb] at a;obtain⟨o,j,n⟩:=hl.get a;rw[ZaL] at j;exact⟨o,λw=>by simp[part,vb g,f,j],n⟩
def pF (h:(pA s b).H d):∃e ro,s.h.get b=some (.cells d e ro):=by
 obtain⟨o,a,h1⟩:=an.1 h;cases o<;>first | (cases av.1 h1;exact⟨_,_,bC.1 a⟩) | exact h1.elim
theorem Bg (h:(Qb7 s b).H (d,e)):s.h.get b=some (.cells d e false):=by
 obtain⟨o,cs,h1⟩:=an.1 h;cases o with
 | cells a c ro=>
  cases ro
  ·grind [av,bC]
  ·exact h1.elim
 | arr=>exact h1.elim
 | tok=>exact h1.elim
theorem jx {x:Ar D.E} (h:(kG s b).H x):s.h.get b=some (.arr x.c x.xs x.e x.ro):=by
 obtain⟨o,a,h1⟩:=an.1 h;cases o with
 | arr c xs e ro=>cases av.1 (show(C.ret (⟨c,xs,e,ro⟩:Ar D.E)).H x from h1);exact bC.1 a
 | cells=>exact h1.elim
 | tok=>exact h1.elim
theorem Wy (h:(Ϲ s b).H (o,e)):s.h.get b=some (.tok o e):=by
 obtain⟨c,f,h1⟩:=an.1 h;cases c with
 | tok a d=>cases av.1 (show(C.ret (a,d)).H (o,e) from h1);exact bC.1 f
 | cells=>exact h1.elim
 | arr=>exact h1.elim
def kJ {o:Option (AO D.E)} (h:(s.set b o).H s'):s'.h.get=jc s.h.get b o/\s'.nx=s.nx:=by
 obtain⟨t,ht,h1⟩:=an.1 h;cases av.1 h1;exact⟨funext λc=>T.dU _ _ _ _ (bC.1 ht) c,rfl⟩
theorem qw (h:(s.new l).H (b,s')):b=s.nx/\s'.nx=s.nx+1/\s'.h.get=jc s.h.get s.nx (some l):=by
 unfold St.new at h;cases a:s.nx with
 | zero=>
  rw[a] at h;obtain⟨t,ht,h1⟩:=an.1 (show(aA (cN (s.h.put 0 (some l))) _).H (b,s') from h);cases av.1 h1;exact⟨rfl,rfl,funext λc=>T.dU _ _ _ _ (bC.1 ht) c⟩
 | succ n=>
  rw[a] at h;obtain⟨t,ht,h1⟩:=an.1 (show(aA (cN (s.h.put (n+1) (some l))) _).H (b,s') from h);cases av.1 h1;exact⟨rfl,rfl,funext λc=>T.dU _ _ _ _ (bC.1 ht) c⟩
def Rd (M:Pm D) (w:World) (b o:Nat) (cs:List (AV D.E)):Prop:=∀(i:Nat) (v:AV D.E),cs[i]?=some v->∃a,w.cell? ⟨b,o+i,none⟩=some a/\VR M v a
theorem Rd.list {b o:Nat} {cs:List (AV D.E)} (h:Rd M w b o cs):∃l,LR M cs l/\∀j v,l[j]?=some v->w.cell? ⟨b,o+j,none⟩=some v:=by
 refine⟨(List.range cs.length).map λi=>(w.cell? ⟨b,o+i,none⟩).getD default,⟨by simp,λi v m e g=>?_⟩,λj v c=>?_⟩
 ·have hi:=(Zam.1 e).1;obtain⟨u,hu,f⟩:=h i v e;grind
 ·rw[Zbk] at c;cases d:(List.range cs.length)[j]? with
  | none=>rw[d] at c;cases c
  | some k=>
   rw[d] at c;have a:j<cs.length:=by grind
   rw[List.getElem?_range a] at d;cases d;obtain⟨u,hu,f⟩:=h j _ (Zaf a);grind
theorem Rd.drop (h:Rd M w b o d) (n:Nat):Rd M w b (o+n) (d.drop n):=λi v e=>by
 rw[ZbX] at e;obtain⟨c,h1,a⟩:=h _ v e;grind
def Rd.take (h:Rd M w b o d) (n:Nat):Rd M w b o (d.take n):=λi v e=>by
 rw[Za7] at e;split at e
 ·exact h i v e
 ·cases e
theorem Rd.heap {a:World} (h:Rd M w b o d) (hw:a.heap=w.heap):Rd M a b o d:=λi v e=>by
 obtain⟨cs,h1,c⟩:=h i v e;grind [World.cell?]
def Rd.mono (c:Le M M') (h:Rd M w b o d):Rd M' w b o d:=λi v e=>let ⟨cs,h1,a⟩:=h i v e;⟨cs,h1,a.mono c⟩
def Rd.runs (h:Rd M w b o d):∃l,LR M d l/\l.length=d.length/\∀k,k<=d.length->∀a:World,a.heap=w.heap->(loadCells ⟨b,o,none⟩ k).run P a=.ok (l.take k).toArray a:=by
 obtain⟨l,hl,cs⟩:=h.list;refine⟨l,hl,hl.1.symm,λk hk a hw=>?_⟩;have:=run_loadCells_list (P:=P) (w:=a) ⟨b,o,none⟩ (l.take k) (λj v c=>by
  rw[Addr.add_lit];rw[Za7] at c;split at c
  ·have:=cs j v c;simp only[World.cell?] at this ⊢;rw[hw];exact this
  ·cases c)
 rw[Zar,<-hl.1,Zbj hk] at this;exact this
theorem Rd.run (h:Rd M w b o d):∃l,LR M d l/\l.length=d.length/\∀a:World,a.heap=w.heap->(loadCells ⟨b,o,none⟩ d.length).run P a=.ok l.toArray a:=by
 obtain⟨l,h1,c,cs⟩:=h.runs (P:=P);grind
theorem wi (h:(j4 P D e d j).H v) (q:Rd M w b o d):
  ∃c,(Instr.loadAt e (.pointer (some ⟨b,o+j,none⟩))).run P w=.ok c w/\(loadVar e ⟨b,o+j,none⟩).run P w=.ok c w/\VR M v c:=by
 obtain⟨cs,m,s⟩:=an.1 h;rw[gT] at m;have r:∀x:Value,(loadVar e ⟨b,o+j,none⟩).run P w=.ok x w->(Instr.loadAt e (.pointer (some ⟨b,o+j,none⟩))).run P w=.ok x w:=λx r=>by
  assumption
 rcases gS.1 s with⟨i,g⟩ | ⟨i,g⟩
 ·obtain⟨k,hk,f⟩:=an.1 g;obtain⟨l,hl,u⟩:=an.1 f;cases av.1 u;rw[sP] at hk;obtain⟨B,rfl⟩:=jf (bC.1 hl);rw[mj] at*
  obtain⟨A,p,hlen,a⟩:=((q.drop j).take k).run (P:=P);have n:((d.drop j).take k).length=k:=by grind
  rw[n] at a;have t:(loadVar e ⟨b,o+j,none⟩).run P w=.ok (.agg A.toArray) w:=by
   simp[loadVar,vb m,i,cJ hk,a w rfl]
  exact⟨_,r _ t,t,.CJ p⟩
 ·have f:=bC.1 g;rw[fb] at f;obtain⟨c,y,z⟩:=q j v f;have t:(loadVar e ⟨b,o+j,none⟩).run P w=.ok c w:=by
   simp[loadVar,vb m,i,load,Sem.run,y]
  grind
theorem N6.rd {ro:Bool} (h:N6 M Z w d e ro):Rd M w Z.bZ Z.sh d:=λi v hi=>by
 obtain⟨C,b,h1,c,cs,f,_⟩:=h;grind [World.cell?]
theorem bb (a:a7 D) (c:Nat):∀xs:List (D.E c),(aY c xs).length=xs.length*D.size c
 | []=>by simp[aY]
 | x::xs=>by
  have:=bb a c xs;simp only[aY,Zbt,Zab,Zae] at this ⊢;rw[this,a.len,ZaV];omega
theorem fP (a:a7 D) (c:Nat):∀(xs:List (D.E c)) (i j:Nat) (hi:i<xs.length),j<D.size c->(aY c xs)[i*D.size c+j]?=(D.ba c xs[i])[j]?
 | [],i,j,hi,_=>by grind
 | x::xs,0,j,_,hj=>by
  simp only[aY,Zbt,ZbS,Za6,List.getElem_cons_zero];rw[Zat (by rw[a.len];exact hj)]
 | x::xs,i+1,j,hi,hj=>by
  have:=fP a c xs i j (by grind) hj;simp only[aY,Zbt] at this ⊢;rw[Zaz (by rw[a.len,ZaV];omega),a.len,show(i+1)*D.size c+j-D.size c=i*D.size c+j by grind,this];simp
theorem kx (a:a7 D) (h:Rd M w o j (aY b V)) {i:Nat} (hi:i<V.length):Rd M w o (j+i*D.size b) (D.ba b V[i]):=λc v e=>by
 have f:c<D.size b:=by rw[<-a.len b V[i]];exact(Zam.1 e).1
 obtain⟨g,h1,d⟩:=h (i*D.size b+c) v (by grind [fP]);grind
theorem Bh {α:Type} {d:α} {xs:List α} (h:b<xs.length):gt d xs b=xs[b]:=by
 unfold gt;grind
def Qcm (a:dX M H w) {x:D.E b} (h:∀(i:Nat) (v:AV D.E),(D.ba b x)[i]?=some v->M.sg o (j+i)=some v):Rd M w o j (D.ba b x):=λi v e=>(a.gL _ _ _ (h i v e)).2
theorem pG (f:a7 D) (g:dX M H w) (h:cx M o j b V):Rd M w o j (aY b V):=λq v e=>by
 have c:=(Zam.1 e).1;rw[bb f] at c;have a:0<D.size b:=by
  grind
 have hi:q / D.size b<V.length:=Zc6 (by grind);have i:q % D.size b<D.size b:=Zc4 _ a;have d:q / D.size b*D.size b+q % D.size b=q:=by grind [Nat.div_add_mod]
 rw[<-d,fP f b V _ _ hi i] at e;have:=h _ hi _ v e;obtain⟨_,l,h1,k⟩:=g.gL _ _ _ this;grind
theorem y8 (I:a7 D) (h:(Cy P D s e v).H y) (L:VR M v z) (m:dX M s.h.get w):
  ∃l p,z=.pointer (some p)/\(Instr.loadAt e z).run P w=.ok l w/\(loadVar e p).run P w=.ok l w/\VR M y l:=by
 cases L<;>simp only[Cy] at h<;>(try exact h.elim)
 case ptr b o O n u=>
  obtain⟨cs,K,h1⟩:=an.1 h;obtain⟨t,ro,J⟩:=pF K;obtain⟨r,a,_,f⟩:=m.obj b _ J;rw[n] at a;cases a;obtain⟨l,C,F,G⟩:=wi h1 f.rd;grind
 case ma b k i j O n u hk hi=>
  obtain⟨x,N,h1⟩:=an.1 h;obtain⟨r,a,Q,R,f⟩:=m.obj b _ (jx N);rw[n] at a;cases a;have g:i<x.xs.length:=ω;have B:(j4 P D e (D.ba x.c x.xs[i]) j).H y:=by
   rw[<-Bh (d:=D.Wn x.c) g];exact h1
  have A:=kx I (f u).rd g;grind [wi]
 case nu c x b o j q=>
  obtain⟨l,C,F,G⟩:=wi h (Qcm m q);grind
def vd (s:St D.E) (M:Pm D) (w:World) (r:Result Value) (v:AV D.E) (b:St D.E):Prop:=
 ∃a v' c,r=.ok v' c/\VR a v v'/\cP s.h.get M w b.h.get a c s.nx b.nx
theorem vd.pure (a:dX M s.h.get w) {r:Result Value} {v':Value} (b:r=.ok v' w) (c:VR M v v'):vd s M w r v s:=⟨M,v',w,b,c,.refl a _⟩
def Qfb (s:St D.E) (M:Pm D) (w:World) (r:Result Unit) (a:St D.E):Prop:=
 ∃c b,r=.ok () b/\cP s.h.get M w a.h.get c b s.nx a.nx
theorem dx (b:Nat):∀(a:List Value) (o:Nat) (w:World) (c:Nat),c≠b->(w.setCells b o a).heap[c]?=w.heap[c]?
 | [],_,_,_,_=>rfl
 | v::r,o,w,c,h=>(dx b r (o+1) _ c h).trans (Below.heap_setCell w ⟨b,o,none⟩ v c h)
theorem dN (b:Nat):∀(a:List Value) (o:Nat) (w:World),(w.setCells b o a).heap.size=w.heap.size
 | [],_,_=>rfl
 | c::r,o,_w=>(dN b r (o+1) _).trans (World.size_setCell _ _ _)
theorem dO (b:Nat):∀(a:List Value) (o:Nat) (w:World),(w.setCells b o a).os=w.os/\(w.setCells b o a).tape=w.tape/\(w.setCells b o a).output=w.output
 | [],_,_=>⟨rfl,rfl,rfl⟩
 | c::r,o,_w=>dO b r (o+1) _
theorem fx (b:Nat) (e:TypeId) (c:Nat×Nat):∀(d:List Value) (o:Nat) (w:World) (C:Array Value),w.heap[b]?=some (.cells C e c)->o+d.length<=C.size->
  ∃a,(w.setCells b o d).heap[b]?=some (.cells a e c)/\a.size=C.size/\∀i,a[i]?=if o<=i/\i<o+d.length then d[i-o]? else C[i]?
 | [],o,w,C,h,_=>⟨C,h,rfl,λi=>by grind⟩
 | v::r,o,w,C,h,hl=>by
  have h1:(w.setCell ⟨b,o,none⟩ v).heap[b]?=some (.cells (C.setIfInBounds o v) e c):=by
   show(w.heap.modify b _)[b]?=_
   grind
  obtain⟨a,f,g,j⟩:=fx b e c r (o+1) _ _ h1 (by grind);refine⟨a,f,by grind,λi=>?_⟩;grind
theorem rD {o1:AO D.E} {g:Nat×Nat} {q:Nat} {vs':List Value} (r:dX M H w) (s:H b=some l) (hw:l.wr) (m:M.pl b=some Z) (n:Z.real)
  (t:w.heap[Z.bZ]?=some (.cells W e g)) (dd:W.size=Z.qu) (J:q+vs'.length<=Z.qu) (x:g.1=g.2\/Z.qu<=g.1/\Z.jh=1) (d:∀j,l.sO Z j)
  (z:∀k:Array Value,(w.setCells Z.bZ q vs').heap[Z.bZ]?=some (.cells k e g)->k.size=W.size->(∀i,k[i]?=if q<=i/\i<q+vs'.length then vs'[i-q]? else W[i]?)->OR M o1 Z (w.setCells Z.bZ q vs')) (lo:Nat) (p:∀c xs e,o1=.arr c xs e true->False:=by intro _ _ _ h;cases h):
  (∀j,j<vs'.length->(w.cell? ⟨Z.bZ,q+j,none⟩).isSome)/\(∀j,j<vs'.length->w.frozen? ⟨Z.bZ,q+j,none⟩=false)/\
  cP H M w (jc H b (some o1)) M (w.setCells Z.bZ q vs') lo lo:=by
 refine⟨λj y=>?_,λj y=>?_,?_⟩
 ·grind [World.cell?]
 ·grind [World.frozen?]
 ·obtain⟨k,q1,A,B⟩:=fx Z.bZ e g vs' q w W t ω;obtain⟨F,G,I⟩:=dO Z.bZ vs' q w;have f:∀j,M.sg Z.bZ j=none:=λj=>r.sep b l Z s hw m n j (d j)
  have:=cP.upon (M1:=M) (sg1:=M.sg) (b0:=b) (b1:=b) (o1:=o1) (Bd:=Z) (lo:=lo) (hi:=lo) r s hw m n n rfl (by
    cases M with
    | mk pl sg=>
     congr 1;funext c;by_cases e:c=b
     ·rw[Zac e,e];exact m
     ·rw[Zaa e]) (.inl ⟨rfl,rfl,rfl⟩) (λ_ _ _ h=>h) (λ_ _ h=>.inl h) (dN _ _ _ _) (λc u=>dx _ _ _ _ c u) F G I (z k q1 A B)
   (λo v h=>by grind) (λ_ j _=>f j) (λc xs e h=>(p c xs e h).elim)
  have e2:(λc=>if c=b then some o1 else if c=b then none else H c)=jc H b (some o1):=by
   grind [jc]
  grind
theorem wj {vs':List Value} (h:(sK D s b o d).H s') (m:M.pl b=some Z) (j:dX M s.h.get w) (n:LR M d vs') (h1:jB one d):
  (storeCells ⟨Z.bZ,Z.sh+o,none⟩ vs' 0).run P w=.ok () (w.setCells Z.bZ (Z.sh+o) vs')/\cP s.h.get M w s'.h.get M (w.setCells Z.bZ (Z.sh+o) vs') s.nx s'.nx:=by
 obtain⟨cs,e,hw,t⟩:=bq.1 h;obtain⟨f,x,u⟩:=an.1 t;obtain⟨q1,F⟩:=kJ u;have k:=Bg hw;obtain⟨y,c,g,C,r,k1,k2,k3,k4,k5⟩:=j.obj b _ k;rw[m] at c;cases c;obtain⟨p1,p2,p3⟩:=jg (bC.1 x);have hl:=n.1;obtain⟨c1,c2,c3⟩:=rD (o1:=.cells f e false) (q:=Z.sh+o) (vs':=vs') j k rfl m g.1 k1 k2 ω (k5 rfl) (λ_=>trivial) (λp z A B=>⟨⟨g.1,g.2.1,ω⟩,p,r,z,A.trans k2,ω,λi v hi=>by
  rw[p3 i] at hi;rw[B];by_cases l:o<=i/\i<o+d.length
  ·rw[Zac l] at hi;rw[Zac ω,show Z.sh+i-(Z.sh+o)=i-o by omega];exact n.get hi
  ·rw[Zaa l] at hi;rw[Zaa ω];exact k4 i v hi,k5⟩) s.nx
 grind [run_storeCells_cells,sN]
theorem mq {α:Type} (xs:List α) (i:Nat) (x:α):(cO xs i x).length=xs.length:=by simp[cO]
theorem FA (l:a7 D) {vs':List Value} (h:(On D s b o j d).H s') (Q:M.pl b=some Z) (R:Z.real) (hi:o<Z.len) (N:dX M s.h.get w) (S:LR M d vs') (h1:jB one d):
  (storeCells ⟨Z.bZ,Z.sh+o*Z.jh+j,none⟩ vs' 0).run P w=.ok () (w.setCells Z.bZ (Z.sh+o*Z.jh+j) vs')/\cP s.h.get M w s'.h.get M (w.setCells Z.bZ (Z.sh+o*Z.jh+j) vs') s.nx s'.nx:=by
 obtain⟨⟨c,xs,e,ro⟩,Y,L⟩:=an.1 h;have O:=jx Y;cases ro with
 | true=>exact L.elim
 | false=>
  obtain⟨row,f,W⟩:=an.1 (show(aA (cN (Cw j d (D.ba c (gt (D.Wn c) xs o)))) _).H s' from L);obtain⟨x,m,X⟩:=an.1 W;obtain⟨q1,q2⟩:=kJ X;obtain⟨a,i,g1,g2,A⟩:=N.obj b _ O;rw[Q] at i;cases i;obtain⟨C,V,k1,k2,k3,k4,k5⟩:=A R;simp only at g1 g2 k3 k4 k5 q1;have n:o<xs.length:=ω;rw[Bh n] at f;obtain⟨p1,p2,p3⟩:=jg (bC.1 f);rw[l.len] at p1 p2;obtain⟨d1,d2⟩:=l.dec c row x (bC.1 m);have hl:=S.1;rw[bb l] at k3;have hmul:(o+1)*D.size c<=xs.length*D.size c:=Zbc _ n;rw[ZaV] at hmul;obtain⟨c1,c2,c3⟩:=rD (o1:=.arr c (cO xs o x) e false) (q:=Z.sh+o*Z.jh+j) (vs':=vs') N O rfl Q R k1 k2 (by grind) (k5 trivial) (λ_=>trivial) (λT w1 w2 w3=>⟨by rw[mq];exact g1,g2,λ_=>⟨T,V,w1,w2.trans k2,by rw[bb l,mq];exact k3,λq v r=>by
   have y:=(Zam.1 r).1;rw[bb l,mq] at y;have z:0<D.size c:=by
    grind
   have F:q / D.size c<xs.length:=Zc6 (by grind);have G:q % D.size c<D.size c:=Zc4 _ z;have t:q / D.size c*D.size c+q % D.size c=q:=by grind [Nat.div_add_mod]
   rw[<-t,fP l c _ _ _ (by rw[mq];exact F) G] at r;have hold:∀u,(D.ba c xs[q / D.size c])[q % D.size c]?=some u->∃K,C[Z.sh+q]?=some K/\VR M u K:=λu hu=>by
    have:=k4 q u (by grind [fP]);exact this
   rw[w3,g2];by_cases g:q / D.size c=o
   ·have k:(cO xs o x)[q / D.size c]'(by grind)=x:=by simp[cO,g]
    rw[k] at r;have J:q % D.size c<row.length:=ω;have I:=Zaf J;rw[g] at t;by_cases B:j<=q % D.size c/\q % D.size c<j+d.length
    ·rw[Zac ω,show Z.sh+q-(Z.sh+o*D.size c+j)=q % D.size c-j by omega];have p:=p3 (q % D.size c);rw[Zac B,I] at p;obtain⟨K,e1,e2⟩:=S.get p.symm;grind
    ·grind
   ·have k:(cO xs o x)[q / D.size c]'(by grind)=xs[q / D.size c]:=by
     grind [cO]
    rw[k] at r;rw[Zaa (by
     rintro⟨a1,a2⟩;apply g;have b1:o*D.size c<=q:=ω;have U:q<(o+1)*D.size c:=by grind
     have b3:=(Nat.le_div_iff_mul_le z).2 b1;have b4:=(Nat.div_lt_iff_lt_mul z).2 U;omega)]
    exact hold _ r,λ_=>k5 trivial⟩⟩) s.nx
  grind [run_storeCells_cells,sN]
theorem CN (x:a7 D) {l:Value} (h:(IY P D s e v y).H s') (q:VR M v z) (A:VR M y l) (m:dX M s.h.get w):Qfb s M w ((Instr.storeAt e z l).run P w) s':=by
 obtain⟨k,hk,r⟩:=an.1 h;rw[sP] at hk;obtain⟨hl,u⟩:=bz.1 r;obtain⟨n,c⟩:=bz.1 u;have a:=fg A;have hlen:l.cells.size=k:=by
  have:=a.1;grind [aN,hI]
 cases q<;>simp only at c<;>(try exact c.elim)
 case ptr b o B g p=>
  obtain⟨d,t⟩:=wj (P:=P) c g m a n;refine⟨M,_,?_,t⟩;simp only[Instr.storeAt,Instr.sureAddr,Zzd,Zzc,Zzb,storeVar,cJ hk,hlen,ne_eq,Zce,Za0];exact d
 case ma b k2 i j B g p f hi=>
  obtain⟨d,t⟩:=FA (P:=P) x c g p hi m a n;rw[f] at d t;refine⟨M,_,?_,t⟩;simp only[Instr.storeAt,Instr.sureAddr,Zzd,Zzc,Zzb,storeVar,cJ hk,hlen,ne_eq,Zce,Za0];exact d
end
end sx
end Go.Proofs.YtiiiphndmbabcaaGreat
