/- StreamRises: a part of the proof. -/
import Derived.Test.YtadfknojfbmjgaaGreatC9
import Derived.Test.YtadfknojfbmjgaaGreatC10
import Derived.Test.YtadfknojfbmjgaaGreatProg
import Derived.KernelRfl
import Derived.Test.YtadfknojfbmjgaaGreatRows
import Derived.OpenShut
import Derived.ProofKit
import Derived.Deep.Slices
set_option linter.all false
namespace Go.Proofs.YtadfknojfbmjgaaGreat
namespace sx
open Go Go.RowKit cls
open syn (Nd Gt)
noncomputable section
structure Thread where
 pc:Int
 c0:Int
 c1:Int
 c2:Int
 c3:Int
 c4:Int
 c5:Int
 c6:Int
 c7:Int
 c8:Int
 c9:Int
structure fP where
 done:Bool
 c0:Int
 c1:Int
 c2:Int
 c3:Int
 c4:Int
 c5:Int
 c6:Int
 c7:Int
 c8:Int
 c9:Int
 threads:List Thread
structure lC where
 name:List UInt8
 text:List UInt8
structure Found where
 kind:Int
 pos:Int
 kd:Int
 c0:Int
 c1:Int
 c2:Int
 c3:Int
 c4:Int
 c5:Int
 c6:Int
 c7:Int
 c8:Int
 c9:Int
structure Ins where
 op:Int
 x:Int
 y:Int
 a_:List Rg
structure XG where
 c0:Int
 c1:Int
 c2:Int
 c3:Int
 c4:Int
 c5:Int
 c6:Int
 c7:Int
 c8:Int
 c9:Int
inductive Tree where
 | mk (op:Int) (r:List Rg) (mn:Int) (mx:Int) (lz:Bool) (cap:Int) (nk:Int) (kids:List Tree)
def Tree.op (x:Tree):Int:=match x with
 | .mk a _ _ _ _ _ _ _=>a
def Tree.r (x:Tree):List Rg:=match x with
 | .mk _ a _ _ _ _ _ _=>a
def Tree.mn (x:Tree):Int:=match x with
 | .mk _ _ a _ _ _ _ _=>a
def Tree.mx (x:Tree):Int:=match x with
 | .mk _ _ _ a _ _ _ _=>a
def Tree.lz (x:Tree):Bool:=match x with
 | .mk _ _ _ _ a _ _ _=>a
def Tree.cap (x:Tree):Int:=match x with
 | .mk _ _ _ _ _ a _ _=>a
def Tree.nk (x:Tree):Int:=match x with
 | .mk _ _ _ _ _ _ a _=>a
def Tree.kids (x:Tree):List Tree:=match x with
 | .mk _ _ _ _ _ _ _ a=>a
structure Row where
 k:List UInt8
 v:Int
structure Item where
 i:Int
 x:Bool
structure mP where
 piece:List UInt8
 times:Int
 XH:Bool
def El (c:Nat):Type:=match c with
 | 0=>UInt8
 | 1=>Thread
 | 2=>fP
 | 3=>lC
 | 4=>Found
 | 5=>Int
 | 6=>Rg
 | 7=>Nd
 | 8=>Ins
 | 9=>List Nd
 | 10=>List UInt8
 | 11=>XG
 | 12=>List fP
 | 13=>Gt
 | 14=>Int
 | 15=>Tree
 | 16=>Row
 | 17=>Bool
 | 18=>Item
 | 19=>mP
 | _=>Unit
def szD (c:Nat):Nat:=match c with
 | 0=>1
 | 1=>11
 | 2=>12
 | 3=>2
 | 4=>13
 | 5=>1
 | 6=>2
 | 7=>7
 | 8=>4
 | 9=>1
 | 10=>1
 | 11=>10
 | 12=>1
 | 13=>2
 | 14=>1
 | 15=>8
 | 16=>2
 | 17=>1
 | 18=>2
 | 19=>3
 | _=>1
def eo (c:Nat):El c->List (AV El):=match c with
 | 0=>λ(x:UInt8)=>[.int .u8 x.toNat]
 | 1=>λ(x:Thread)=>[.int .i64 x.pc,.int .i64 x.c0,.int .i64 x.c1,.int .i64 x.c2,.int .i64 x.c3,.int .i64 x.c4,.int .i64 x.c5,.int .i64 x.c6,.int .i64 x.c7,.int .i64 x.c8,.int .i64 x.c9]
 | 2=>λ(x:fP)=>[.bool x.done,.int .i64 x.c0,.int .i64 x.c1,.int .i64 x.c2,.int .i64 x.c3,.int .i64 x.c4,.int .i64 x.c5,.int .i64 x.c6,.int .i64 x.c7,.int .i64 x.c8,.int .i64 x.c9,.list 1 x.threads]
 | 3=>λ(x:lC)=>[.str x.name,.str x.text]
 | 4=>λ(x:Found)=>[.int .i64 x.kind,.int .i64 x.pos,.int .i64 x.kd,.int .i64 x.c0,.int .i64 x.c1,.int .i64 x.c2,.int .i64 x.c3,.int .i64 x.c4,.int .i64 x.c5,.int .i64 x.c6,.int .i64 x.c7,.int .i64 x.c8,.int .i64 x.c9]
 | 5=>λ(x:Int)=>[.int .i64 x]
 | 6=>λ(x:Rg)=>[.int .i32 x.1,.int .i32 x.2]
 | 7=>λ(x:Nd)=>[.int .i64 x.op,.list 6 x.r,.int .i64 x.mn,.int .i64 x.mx,.bool x.lz,.int .i64 x.cap,.int .i64 x.kids]
 | 8=>λ(x:Ins)=>[.int .i64 x.op,.int .i64 x.x,.int .i64 x.y,.list 6 x.a_]
 | 9=>λ(x:List Nd)=>[.list 7 x]
 | 10=>λ(x:List UInt8)=>[.str x]
 | 11=>λ(x:XG)=>[.int .i64 x.c0,.int .i64 x.c1,.int .i64 x.c2,.int .i64 x.c3,.int .i64 x.c4,.int .i64 x.c5,.int .i64 x.c6,.int .i64 x.c7,.int .i64 x.c8,.int .i64 x.c9]
 | 12=>λ(x:List fP)=>[.list 2 x]
 | 13=>λ(x:Gt)=>[.int .i32 x.1,.int .i64 x.2]
 | 14=>λ(x:Int)=>[.int .i32 x]
 | 15=>λ(x:Tree)=>[.int .i64 x.op,.list 6 x.r,.int .i64 x.mn,.int .i64 x.mx,.bool x.lz,.int .i64 x.cap,.int .i64 x.nk,.list 15 x.kids]
 | 16=>λ(x:Row)=>[.str x.k,.int .i64 x.v]
 | 17=>λ(x:Bool)=>[.bool x]
 | 18=>λ(x:Item)=>[.int .i64 x.i,.bool x.x]
 | 19=>λ(x:mP)=>[.str x.piece,.int .i64 x.times,.bool x.XH]
 | _=>λ_=>[.int .i64 0]
def cr (k:IntKind) (v:AV El):Option Int:=match v with
 | .int a n=>oI (Bi k a) (some n)
 | .num a n=>oI (Bi k a) (some n)
 | _=>none
def D3 (v:AV El):Option Bool:=match v with
 | .bool b=>some b
 | .lit b=>some b
 | _=>none
def GX (v:AV El):Option (List UInt8):=match v with
 | .str s=>some s
 | _=>none
def Ko (c a:Nat) (xs:List (El a)):Option (List (El c)):=Decidable.rec (motive:=λ_=>Option (List (El c))) (λ_=>none) (λh=>some (Eq.rec (motive:=λc _=>List (El c)) xs h)) (Nat.decEq a c)
def BW (c:Nat) (v:AV El):Option (List (El c)):=match v with
 | .list a xs=>Ko c a xs
 | .grow a xs _=>Ko c a xs
 | .cF=>some []
 | _=>none
def b8 (n:Int):UInt8:=UInt8.ofNat n.toNat
def QdW (l:List (AV El)):Option (El 0):=match l with
 | [a0]=>oB (cr .u8 a0) λa0=>some (b8 a0)
 | _=>none
def MJ (l:List (AV El)):Option (El 1):=match l with
 | [a0,b,a2,a3,a4,a5,c,d,e,a9,a]=>oB (cr .i64 a0) λa0=>oB (cr .i64 b) λb=>oB (cr .i64 a2) λa2=>oB (cr .i64 a3) λa3=>oB (cr .i64 a4) λa4=>oB (cr .i64 a5) λa5=>oB (cr .i64 c) λc=>oB (cr .i64 d) λd=>oB (cr .i64 e) λe=>oB (cr .i64 a9) λa9=>oB (cr .i64 a) λa=>some (Thread.mk a0 b a2 a3 a4 a5 c d e a9 a)
 | _=>none
def MK (l:List (AV El)):Option (El 2):=match l with
 | [a0,c,a2,a3,a4,a5,d,e,f,a9,a,b]=>oB (D3 a0) λa0=>oB (cr .i64 c) λc=>oB (cr .i64 a2) λa2=>oB (cr .i64 a3) λa3=>oB (cr .i64 a4) λa4=>oB (cr .i64 a5) λa5=>oB (cr .i64 d) λd=>oB (cr .i64 e) λe=>oB (cr .i64 f) λf=>oB (cr .i64 a9) λa9=>oB (cr .i64 a) λa=>oB (BW 1 b) λb=>some (fP.mk a0 c a2 a3 a4 a5 d e f a9 a b)
 | _=>none
def Qr (l:List (AV El)):Option (El 3):=match l with
 | [a0,a]=>oB (GX a0) λa0=>oB (GX a) λa=>some (lC.mk a0 a)
 | _=>none
def QdX (l:List (AV El)):Option (El 4):=match l with
 | [a0,c,a2,a3,a4,a5,d,e,f,a9,a,b,a12]=>oB (cr .i64 a0) λa0=>oB (cr .i64 c) λc=>oB (cr .i64 a2) λa2=>oB (cr .i64 a3) λa3=>oB (cr .i64 a4) λa4=>oB (cr .i64 a5) λa5=>oB (cr .i64 d) λd=>oB (cr .i64 e) λe=>oB (cr .i64 f) λf=>oB (cr .i64 a9) λa9=>oB (cr .i64 a) λa=>oB (cr .i64 b) λb=>oB (cr .i64 a12) λa12=>some (Found.mk a0 c a2 a3 a4 a5 d e f a9 a b a12)
 | _=>none
def QdY (l:List (AV El)):Option (El 5):=match l with
 | [a0]=>oB (cr .i64 a0) λa0=>some a0
 | _=>none
def QdZ (l:List (AV El)):Option (El 6):=match l with
 | [a0,a]=>oB (cr .i32 a0) λa0=>oB (cr .i32 a) λa=>some (Prod.mk a0 a)
 | _=>none
def Qd0 (l:List (AV El)):Option (El 7):=match l with
 | [a0,a,a2,a3,a4,a5,b]=>oB (cr .i64 a0) λa0=>oB (BW 6 a) λa=>oB (cr .i64 a2) λa2=>oB (cr .i64 a3) λa3=>oB (D3 a4) λa4=>oB (cr .i64 a5) λa5=>oB (cr .i64 b) λb=>some (Nd.mk a0 a a2 a3 a4 a5 b)
 | _=>none
def Qd1 (l:List (AV El)):Option (El 8):=match l with
 | [a0,a,a2,a3]=>oB (cr .i64 a0) λa0=>oB (cr .i64 a) λa=>oB (cr .i64 a2) λa2=>oB (BW 6 a3) λa3=>some (Ins.mk a0 a a2 a3)
 | _=>none
def Qd2 (l:List (AV El)):Option (El 9):=match l with
 | [a0]=>oB (BW 7 a0) λa0=>some a0
 | _=>none
def Qt (l:List (AV El)):Option (El 10):=match l with
 | [a0]=>oB (GX a0) λa0=>some a0
 | _=>none
def Qu (l:List (AV El)):Option (El 11):=match l with
 | [a0,a,a2,a3,a4,a5,b,c,d,a9]=>oB (cr .i64 a0) λa0=>oB (cr .i64 a) λa=>oB (cr .i64 a2) λa2=>oB (cr .i64 a3) λa3=>oB (cr .i64 a4) λa4=>oB (cr .i64 a5) λa5=>oB (cr .i64 b) λb=>oB (cr .i64 c) λc=>oB (cr .i64 d) λd=>oB (cr .i64 a9) λa9=>some (XG.mk a0 a a2 a3 a4 a5 b c d a9)
 | _=>none
def Qv (l:List (AV El)):Option (El 12):=match l with
 | [a0]=>oB (BW 2 a0) λa0=>some a0
 | _=>none
def Qw (l:List (AV El)):Option (El 13):=match l with
 | [a0,a]=>oB (cr .i32 a0) λa0=>oB (cr .i64 a) λa=>some (Prod.mk a0 a)
 | _=>none
def Qx (l:List (AV El)):Option (El 14):=match l with
 | [a0]=>oB (cr .i32 a0) λa0=>some a0
 | _=>none
def Qy (l:List (AV El)):Option (El 15):=match l with
 | [a0,a,a2,a3,a4,a5,b,c]=>oB (cr .i64 a0) λa0=>oB (BW 6 a) λa=>oB (cr .i64 a2) λa2=>oB (cr .i64 a3) λa3=>oB (D3 a4) λa4=>oB (cr .i64 a5) λa5=>oB (cr .i64 b) λb=>oB (BW 15 c) λc=>some (Tree.mk a0 a a2 a3 a4 a5 b c)
 | _=>none
def Qz (l:List (AV El)):Option (El 16):=match l with
 | [a0,a]=>oB (GX a0) λa0=>oB (cr .i64 a) λa=>some (Row.mk a0 a)
 | _=>none
def QA (l:List (AV El)):Option (El 17):=match l with
 | [a0]=>oB (D3 a0) λa0=>some a0
 | _=>none
def QB (l:List (AV El)):Option (El 18):=match l with
 | [a0,a]=>oB (cr .i64 a0) λa0=>oB (D3 a) λa=>some (Item.mk a0 a)
 | _=>none
def QC (l:List (AV El)):Option (El 19):=match l with
 | [a0,a,a2]=>oB (GX a0) λa0=>oB (cr .i64 a) λa=>oB (D3 a2) λa2=>some (mP.mk a0 a a2)
 | _=>none
def QnS (c:Nat) (l:List (AV El)):Option (El c):=match c with
 | 0=>QdW l
 | 1=>MJ l
 | 2=>MK l
 | 3=>Qr l
 | 4=>QdX l
 | 5=>QdY l
 | 6=>QdZ l
 | 7=>Qd0 l
 | 8=>Qd1 l
 | 9=>Qd2 l
 | 10=>Qt l
 | 11=>Qu l
 | 12=>Qv l
 | 13=>Qw l
 | 14=>Qx l
 | 15=>Qy l
 | 16=>Qz l
 | 17=>QA l
 | 18=>QB l
 | 19=>QC l
 | _=>none
def QnT (c:Nat):El c:=match c with
 | 0=>(0:UInt8)
 | 1=>Thread.mk 0 0 0 0 0 0 0 0 0 0 0
 | 2=>fP.mk false 0 0 0 0 0 0 0 0 0 0 []
 | 3=>lC.mk [] []
 | 4=>Found.mk 0 0 0 0 0 0 0 0 0 0 0 0 0
 | 5=>(0:Int)
 | 6=>Prod.mk 0 0
 | 7=>Nd.mk 0 [] 0 0 false 0 0
 | 8=>Ins.mk 0 0 0 []
 | 9=>([]:List Nd)
 | 10=>([]:List UInt8)
 | 11=>XG.mk 0 0 0 0 0 0 0 0 0 0
 | 12=>([]:List fP)
 | 13=>Prod.mk 0 0
 | 14=>(0:Int)
 | 15=>Tree.mk 0 [] 0 0 false 0 0 []
 | 16=>Row.mk [] 0
 | 17=>(false:Bool)
 | 18=>Item.mk 0 false
 | 19=>mP.mk [] 0 false
 | (_+20)=>()
def D:Data:=⟨El,szD,eo,QnS,QnT,0,λxs=>xs,λxs=>xs,0,λ_=>True,λ_ _ _ h=>h⟩
end
section
variable {M:Pm D} {v:AV D.E} {val:Value}
def aK {k:IntKind} {n:Int} (h:cr k v=some n) (c:VR M v val):VR M (.int k n:AV D.E) val/\mv k n:=by
 cases c<;>simp only[cr] at h<;>(try (cases h;done))
 case int d e a=>
  obtain⟨h1,b⟩:=lI.1 h;cases b;rw[fT.1 h1];exact⟨.int a,a⟩
 case num d e a=>
  obtain⟨h1,b⟩:=lI.1 h;cases b;rw[fT.1 h1];exact⟨.int a,a⟩
def pS {b:Bool} (h:D3 v=some b) (a:VR M v val):VR M (.bool b:AV D.E) val:=by
 cases a<;>simp only[D3] at h<;>(try (cases h;done))
 ·cases h;exact .bool _
 ·cases h;exact .bool _
def sf {s:List UInt8} (h:GX v=some s) (a:VR M v val):VR M (.str s:AV D.E) val:=by
 cases a<;>simp only[GX] at h<;>(try (cases h;done));cases h;exact .str (by assumption)
theorem xk {c a:Nat} {xs:List (El a)} {d:List (El c)} (h:Ko c a xs=some d):∃e:a=c,e▸xs=d:=by
 unfold Ko at h;cases b:Nat.decEq a c with
 | isFalse g=>rw[b] at h;cases h
 | isTrue f=>rw[b] at h;subst f;exact⟨rfl,ZbN h⟩
def nH {c:Nat} {xs:List (El c)} (h:BW c v=some xs) (a:VR M v val):VR M (.list c xs:AV D.E) val:=by
 cases v<;>simp only[BW] at h<;>(try (cases h;done))
 ·cases h;cases a;exact .fh
 ·obtain⟨rfl,rfl⟩:=xk h;cases a with
  | grow h e hl hz hs d b ht=>exact .list hs d b
  | j5 h e=>exact .fh
 ·obtain⟨rfl,rfl⟩:=xk h;exact a
def o5 {n:Int} (h:mv .u8 n):((b8 n).toNat:Int)=n:=by
 rw[cB] at h;simp only[CU,sY] at h;unfold b8;rw[UInt8.toNat_ofNat'];omega
def jI (row aX:List (AV D.E)):Prop:=row.length=aX.length/\∀(j:Nat) (a b:AV D.E),row[j]?=some a->aX[j]?=some b->∀(M:Pm D) (v:Value),VR M a v->VR (D:=D) M b v
theorem jI.nil:jI [] []:=⟨rfl,λj a b h=>by simp at h⟩
def jI.cons {a c:AV D.E} {r e:List (AV D.E)} (h:∀(M:Pm D) (v:Value),VR M a v->VR (D:=D) M c v) (d:jI r e):jI (a::r) (c::e):=
 ⟨by simp[d.1],λj x f b e2=>by
  cases j with
  | zero=>simp at b e2;subst b;subst e2;exact h
  | succ j=>exact d.2 j x f (by simpa using b) (by simpa using e2)⟩
end
variable {Z:List (AV El)}
def XI {x:El 0} (h:QdW Z=some x):jI Z (eo 0 x):=by
 unfold QdW at h;split at h
 ·rename_i a0
  obtain⟨x0,a,h⟩:=aB.1 h;cases h;exact .cons (λM v c=>by
   obtain⟨h1,b⟩:=aK a c;show VR M (.int .u8 ((b8 x0).toNat:Int)) v
   rw[o5 b];exact h1) .nil
 ·cases h
def XJ {x:El 1} (h:MJ Z=some x):jI Z (eo 1 x):=by
 unfold MJ at h;split at h
 ·rename_i a0 n a2 a3 a4 a5 o p q a9 c
  obtain⟨x0,d,h⟩:=aB.1 h;obtain⟨x1,e,h⟩:=aB.1 h;obtain⟨r,e2,h⟩:=aB.1 h;obtain⟨s,f,h⟩:=aB.1 h;obtain⟨t,g,h⟩:=aB.1 h;obtain⟨u,i,h⟩:=aB.1 h;obtain⟨v,j,h⟩:=aB.1 h;obtain⟨w,k,h⟩:=aB.1 h;obtain⟨y,e8,h⟩:=aB.1 h;obtain⟨z,l,h⟩:=aB.1 h;obtain⟨m,b,h⟩:=aB.1 h;cases h;exact .cons (λ_ _ a=>(aK d a).1) (.cons (λ_ _ a=>(aK e a).1) (.cons (λ_ _ a=>(aK e2 a).1) (.cons (λ_ _ a=>(aK f a).1) (.cons (λ_ _ a=>(aK g a).1) (.cons (λ_ _ a=>(aK i a).1) (.cons (λ_ _ a=>(aK j a).1) (.cons (λ_ _ a=>(aK k a).1) (.cons (λ_ _ a=>(aK e8 a).1) (.cons (λ_ _ a=>(aK l a).1) (.cons (λ_ _ a=>(aK b a).1) .nil))))))))))
 ·cases h
def XK {x:El 2} (h:MK Z=some x):jI Z (eo 2 x):=by
 unfold MK at h;split at h
 ·rename_i a0 q a2 a3 a4 a5 r s t a9 d e
  obtain⟨x0,f,h⟩:=aB.1 h;obtain⟨x1,g,h⟩:=aB.1 h;obtain⟨u,e2,h⟩:=aB.1 h;obtain⟨v,i,h⟩:=aB.1 h;obtain⟨w,j,h⟩:=aB.1 h;obtain⟨y,k,h⟩:=aB.1 h;obtain⟨z,l,h⟩:=aB.1 h;obtain⟨A,m,h⟩:=aB.1 h;obtain⟨B,e8,h⟩:=aB.1 h;obtain⟨C,n,h⟩:=aB.1 h;obtain⟨o,b,h⟩:=aB.1 h;obtain⟨p,c,h⟩:=aB.1 h;cases h;exact .cons (λ_ _ a=>pS f a) (.cons (λ_ _ a=>(aK g a).1) (.cons (λ_ _ a=>(aK e2 a).1) (.cons (λ_ _ a=>(aK i a).1) (.cons (λ_ _ a=>(aK j a).1) (.cons (λ_ _ a=>(aK k a).1) (.cons (λ_ _ a=>(aK l a).1) (.cons (λ_ _ a=>(aK m a).1) (.cons (λ_ _ a=>(aK e8 a).1) (.cons (λ_ _ a=>(aK n a).1) (.cons (λ_ _ a=>(aK b a).1) (.cons (λ_ _ a=>nH c a) .nil)))))))))))
 ·cases h
def XL {x:El 3} (h:Qr Z=some x):jI Z (eo 3 x):=by
 unfold Qr at h;split at h
 ·rename_i a0 d
  obtain⟨x0,b,h⟩:=aB.1 h;obtain⟨x1,c,h⟩:=aB.1 h;cases h;exact .cons (λ_ _ a=>sf b a) (.cons (λ_ _ a=>sf c a) .nil)
 ·cases h
def XM {x:El 4} (h:QdX Z=some x):jI Z (eo 4 x):=by
 unfold QdX at h;split at h
 ·rename_i a0 s a2 a3 a4 a5 t u v a9 e f a12
  obtain⟨x0,g,h⟩:=aB.1 h;obtain⟨x1,i,h⟩:=aB.1 h;obtain⟨w,e2,h⟩:=aB.1 h;obtain⟨y,j,h⟩:=aB.1 h;obtain⟨z,k,h⟩:=aB.1 h;obtain⟨A,l,h⟩:=aB.1 h;obtain⟨B,m,h⟩:=aB.1 h;obtain⟨C,n,h⟩:=aB.1 h;obtain⟨D,e8,h⟩:=aB.1 h;obtain⟨E,o,h⟩:=aB.1 h;obtain⟨p,b,h⟩:=aB.1 h;obtain⟨q,c,h⟩:=aB.1 h;obtain⟨r,d,h⟩:=aB.1 h;cases h;exact .cons (λ_ _ a=>(aK g a).1) (.cons (λ_ _ a=>(aK i a).1) (.cons (λ_ _ a=>(aK e2 a).1) (.cons (λ_ _ a=>(aK j a).1) (.cons (λ_ _ a=>(aK k a).1) (.cons (λ_ _ a=>(aK l a).1) (.cons (λ_ _ a=>(aK m a).1) (.cons (λ_ _ a=>(aK n a).1) (.cons (λ_ _ a=>(aK e8 a).1) (.cons (λ_ _ a=>(aK o a).1) (.cons (λ_ _ a=>(aK b a).1) (.cons (λ_ _ a=>(aK c a).1) (.cons (λ_ _ a=>(aK d a).1) .nil))))))))))))
 ·cases h
def XN {x:El 5} (h:QdY Z=some x):jI Z (eo 5 x):=by
 unfold QdY at h;split at h
 ·rename_i a0
  obtain⟨x0,a,h⟩:=aB.1 h;cases h;exact .cons (λ_ _ b=>(aK a b).1) .nil
 ·cases h
def XO {x:El 6} (h:QdZ Z=some x):jI Z (eo 6 x):=by
 unfold QdZ at h;split at h
 ·rename_i a0 d
  obtain⟨x0,b,h⟩:=aB.1 h;obtain⟨x1,c,h⟩:=aB.1 h;cases h;exact .cons (λ_ _ a=>(aK b a).1) (.cons (λ_ _ a=>(aK c a).1) .nil)
 ·cases h
def XP {x:El 7} (h:Qd0 Z=some x):jI Z (eo 7 x):=by
 unfold Qd0 at h;split at h
 ·rename_i a0 i a2 a3 a4 a5 j
  obtain⟨x0,b,h⟩:=aB.1 h;obtain⟨x1,c,h⟩:=aB.1 h;obtain⟨k,e2,h⟩:=aB.1 h;obtain⟨l,d,h⟩:=aB.1 h;obtain⟨m,e,h⟩:=aB.1 h;obtain⟨n,f,h⟩:=aB.1 h;obtain⟨o,g,h⟩:=aB.1 h;cases h;exact .cons (λ_ _ a=>(aK b a).1) (.cons (λ_ _ a=>nH c a) (.cons (λ_ _ a=>(aK e2 a).1) (.cons (λ_ _ a=>(aK d a).1) (.cons (λ_ _ a=>pS e a) (.cons (λ_ _ a=>(aK f a).1) (.cons (λ_ _ a=>(aK g a).1) .nil))))))
 ·cases h
def XQ {x:El 8} (h:Qd1 Z=some x):jI Z (eo 8 x):=by
 unfold Qd1 at h;split at h
 ·rename_i a0 e a2 a3
  obtain⟨x0,b,h⟩:=aB.1 h;obtain⟨x1,c,h⟩:=aB.1 h;obtain⟨f,e2,h⟩:=aB.1 h;obtain⟨g,d,h⟩:=aB.1 h;cases h;exact .cons (λ_ _ a=>(aK b a).1) (.cons (λ_ _ a=>(aK c a).1) (.cons (λ_ _ a=>(aK e2 a).1) (.cons (λ_ _ a=>nH d a) .nil)))
 ·cases h
def XR {x:El 9} (h:Qd2 Z=some x):jI Z (eo 9 x):=by
 unfold Qd2 at h;split at h
 ·rename_i a0
  obtain⟨x0,a,h⟩:=aB.1 h;cases h;exact .cons (λ_ _ b=>nH a b) .nil
 ·cases h
def QE {x:El 10} (h:Qt Z=some x):jI Z (eo 10 x):=by
 unfold Qt at h;split at h
 ·rename_i a0
  obtain⟨x0,a,h⟩:=aB.1 h;cases h;exact .cons (λ_ _ b=>sf a b) .nil
 ·cases h
def QH {x:El 11} (h:Qu Z=some x):jI Z (eo 11 x):=by
 unfold Qu at h;split at h
 ·rename_i a0 k a2 a3 a4 a5 l m n a9
  obtain⟨x0,b,h⟩:=aB.1 h;obtain⟨x1,c,h⟩:=aB.1 h;obtain⟨o,e2,h⟩:=aB.1 h;obtain⟨p,d,h⟩:=aB.1 h;obtain⟨q,e,h⟩:=aB.1 h;obtain⟨r,f,h⟩:=aB.1 h;obtain⟨s,g,h⟩:=aB.1 h;obtain⟨t,i,h⟩:=aB.1 h;obtain⟨u,e8,h⟩:=aB.1 h;obtain⟨v,j,h⟩:=aB.1 h;cases h;exact .cons (λ_ _ a=>(aK b a).1) (.cons (λ_ _ a=>(aK c a).1) (.cons (λ_ _ a=>(aK e2 a).1) (.cons (λ_ _ a=>(aK d a).1) (.cons (λ_ _ a=>(aK e a).1) (.cons (λ_ _ a=>(aK f a).1) (.cons (λ_ _ a=>(aK g a).1) (.cons (λ_ _ a=>(aK i a).1) (.cons (λ_ _ a=>(aK e8 a).1) (.cons (λ_ _ a=>(aK j a).1) .nil)))))))))
 ·cases h
def QI {x:El 12} (h:Qv Z=some x):jI Z (eo 12 x):=by
 unfold Qv at h;split at h
 ·rename_i a0
  obtain⟨x0,a,h⟩:=aB.1 h;cases h;exact .cons (λ_ _ b=>nH a b) .nil
 ·cases h
def QJ {x:El 13} (h:Qw Z=some x):jI Z (eo 13 x):=by
 unfold Qw at h;split at h
 ·rename_i a0 d
  obtain⟨x0,b,h⟩:=aB.1 h;obtain⟨x1,c,h⟩:=aB.1 h;cases h;exact .cons (λ_ _ a=>(aK b a).1) (.cons (λ_ _ a=>(aK c a).1) .nil)
 ·cases h
def QK {x:El 14} (h:Qx Z=some x):jI Z (eo 14 x):=by
 unfold Qx at h;split at h
 ·rename_i a0
  obtain⟨x0,a,h⟩:=aB.1 h;cases h;exact .cons (λ_ _ b=>(aK a b).1) .nil
 ·cases h
def QM {x:El 15} (h:Qy Z=some x):jI Z (eo 15 x):=by
 unfold Qy at h;split at h
 ·rename_i a0 j a2 a3 a4 a5 k l
  obtain⟨x0,b,h⟩:=aB.1 h;obtain⟨x1,c,h⟩:=aB.1 h;obtain⟨m,e2,h⟩:=aB.1 h;obtain⟨n,d,h⟩:=aB.1 h;obtain⟨o,e,h⟩:=aB.1 h;obtain⟨p,f,h⟩:=aB.1 h;obtain⟨q,g,h⟩:=aB.1 h;obtain⟨r,i,h⟩:=aB.1 h;cases h;exact .cons (λ_ _ a=>(aK b a).1) (.cons (λ_ _ a=>nH c a) (.cons (λ_ _ a=>(aK e2 a).1) (.cons (λ_ _ a=>(aK d a).1) (.cons (λ_ _ a=>pS e a) (.cons (λ_ _ a=>(aK f a).1) (.cons (λ_ _ a=>(aK g a).1) (.cons (λ_ _ a=>nH i a) .nil)))))))
 ·cases h
def QN {x:El 16} (h:Qz Z=some x):jI Z (eo 16 x):=by
 unfold Qz at h;split at h
 ·rename_i a0 d
  obtain⟨x0,b,h⟩:=aB.1 h;obtain⟨x1,c,h⟩:=aB.1 h;cases h;exact .cons (λ_ _ a=>sf b a) (.cons (λ_ _ a=>(aK c a).1) .nil)
 ·cases h
def QO {x:El 17} (h:QA Z=some x):jI Z (eo 17 x):=by
 unfold QA at h;split at h
 ·rename_i a0
  obtain⟨x0,a,h⟩:=aB.1 h;cases h;exact .cons (λ_ _ b=>pS a b) .nil
 ·cases h
def QP {x:El 18} (h:QB Z=some x):jI Z (eo 18 x):=by
 unfold QB at h;split at h
 ·rename_i a0 d
  obtain⟨x0,b,h⟩:=aB.1 h;obtain⟨x1,c,h⟩:=aB.1 h;cases h;exact .cons (λ_ _ a=>(aK b a).1) (.cons (λ_ _ a=>pS c a) .nil)
 ·cases h
def QQ {x:El 19} (h:QC Z=some x):jI Z (eo 19 x):=by
 unfold QC at h;split at h
 ·rename_i a0 d a2
  obtain⟨x0,b,h⟩:=aB.1 h;obtain⟨x1,c,h⟩:=aB.1 h;obtain⟨e,e2,h⟩:=aB.1 h;cases h;exact .cons (λ_ _ a=>sf b a) (.cons (λ_ _ a=>(aK c a).1) (.cons (λ_ _ a=>pS e2 a) .nil))
 ·cases h
def l6 {l:List (AV D.E)} (h:jA (λv=>one v&&mA (D:=D) v) l):∀v∈l,one v/\mA v:=λv a=>by
 have:=dV.1 h v a;simpa using this
theorem jU:aP D where
 len:=λc x=>by
  show(eo c x).length=szD c
  match c,x with
  | 0,x=>rfl
  | 1,x=>rfl
  | 2,x=>rfl
  | 3,x=>rfl
  | 4,x=>rfl
  | 5,x=>rfl
  | 6,x=>rfl
  | 7,x=>rfl
  | 8,x=>rfl
  | 9,x=>rfl
  | 10,x=>rfl
  | 11,x=>rfl
  | 12,x=>rfl
  | 13,x=>rfl
  | 14,x=>rfl
  | 15,x=>rfl
  | 16,x=>rfl
  | 17,x=>rfl
  | 18,x=>rfl
  | 19,x=>rfl
  | _+20,x=>rfl
 one:=λc x=>by
  show ∀v∈eo c x,one v/\mA (D:=D) v
  match c,x with
  | 0,x=>intro v a;exact l6 (l:=eo 0 x) (by rfl) v a
  | 1,x=>intro v a;exact l6 (l:=eo 1 x) (by rfl) v a
  | 2,x=>intro v a;exact l6 (l:=eo 2 x) (by rfl) v a
  | 3,x=>intro v a;exact l6 (l:=eo 3 x) (by rfl) v a
  | 4,x=>intro v a;exact l6 (l:=eo 4 x) (by rfl) v a
  | 5,x=>intro v a;exact l6 (l:=eo 5 x) (by rfl) v a
  | 6,x=>intro v a;exact l6 (l:=eo 6 x) (by rfl) v a
  | 7,x=>intro v a;exact l6 (l:=eo 7 x) (by rfl) v a
  | 8,x=>intro v a;exact l6 (l:=eo 8 x) (by rfl) v a
  | 9,x=>intro v a;exact l6 (l:=eo 9 x) (by rfl) v a
  | 10,x=>intro v a;exact l6 (l:=eo 10 x) (by rfl) v a
  | 11,x=>intro v a;exact l6 (l:=eo 11 x) (by rfl) v a
  | 12,x=>intro v a;exact l6 (l:=eo 12 x) (by rfl) v a
  | 13,x=>intro v a;exact l6 (l:=eo 13 x) (by rfl) v a
  | 14,x=>intro v a;exact l6 (l:=eo 14 x) (by rfl) v a
  | 15,x=>intro v a;exact l6 (l:=eo 15 x) (by rfl) v a
  | 16,x=>intro v a;exact l6 (l:=eo 16 x) (by rfl) v a
  | 17,x=>intro v a;exact l6 (l:=eo 17 x) (by rfl) v a
  | 18,x=>intro v a;exact l6 (l:=eo 18 x) (by rfl) v a
  | 19,x=>intro v a;exact l6 (l:=eo 19 x) (by rfl) v a
  | _+20,x=>intro v a;exact l6 (l:=[.int .i64 0]) (by rfl) v a
 dec:=λc row x h=>by
  have key:jI row (eo c x):=by
   match c,x,h with
   | 0,x,h=>exact XI h
   | 1,x,h=>exact XJ h
   | 2,x,h=>exact XK h
   | 3,x,h=>exact XL h
   | 4,x,h=>exact XM h
   | 5,x,h=>exact XN h
   | 6,x,h=>exact XO h
   | 7,x,h=>exact XP h
   | 8,x,h=>exact XQ h
   | 9,x,h=>exact XR h
   | 10,x,h=>exact QE h
   | 11,x,h=>exact QH h
   | 12,x,h=>exact QI h
   | 13,x,h=>exact QJ h
   | 14,x,h=>exact QK h
   | 15,x,h=>exact QM h
   | 16,x,h=>exact QN h
   | 17,x,h=>exact QO h
   | 18,x,h=>exact QP h
   | 19,x,h=>exact QQ h
   | _+20,x,h=>cases(show none=some x from h)
  have hl:(eo c x).length=szD c:=by
   match c,x with
   | 0,x=>rfl
   | 1,x=>rfl
   | 2,x=>rfl
   | 3,x=>rfl
   | 4,x=>rfl
   | 5,x=>rfl
   | 6,x=>rfl
   | 7,x=>rfl
   | 8,x=>rfl
   | 9,x=>rfl
   | 10,x=>rfl
   | 11,x=>rfl
   | 12,x=>rfl
   | 13,x=>rfl
   | 14,x=>rfl
   | 15,x=>rfl
   | 16,x=>rfl
   | 17,x=>rfl
   | 18,x=>rfl
   | 19,x=>rfl
   | _+20,x=>rfl
  exact⟨key.1.trans hl,key.2⟩
 b1:=rfl
 bl:=λ_=>rfl
 be:=λ_ _ _=>rfl
 bo:=λ_=>rfl
end sx
namespace sx
open Go Go.RowKit
noncomputable section
def cdD (t:TypeId):Option Nat:=match t with
 | 5=>some 0
 | 230=>some 1
 | 158=>some 2
 | 53=>some 3
 | 44=>some 4
 | 3=>some 5
 | 267=>some 6
 | 131=>some 7
 | 128=>some 8
 | 77=>some 9
 | 9=>some 10
 | 54=>some 12
 | 117=>some 13
 | 21=>some 14
 | 134=>some 15
 | 147=>some 15
 | 181=>some 16
 | 4=>some 17
 | 278=>some 18
 | 51=>some 19
 | _=>none
def QnU (l:List Func):Bool:=jA (λfn=>Bool.not (fn.name== "runtime.NumGoroutine" &&fn.body.isSome)) l
theorem ML {P:Program} (h:QnU P.funcs.toList):yY P:=λf fn a=>by
 have:=dV.1 h fn (ZaJ (i:=f) (by rw[ZaL];exact a));grind
def Kp:yY Tryz.prog:=ML (by kernel_rfl)
def mixed:Tryz.prog.follows .mixedOrders:=by kernel_rfl
def GY (f:Func):Code:=match f.body with
 | some c=>c
 | none=>.skip
abbrev vE:=List (bf D)
def Qhr (tab:vE) (fn:Func) (k:bf D) (a:k.Y->cH D) (y:k.Y):Prop:=Qbx Tryz.prog D cdD (caT D tab) (a y) fn.ntmps k (GY fn) fn.results.toList y
abbrev Ok (k:bf D):Prop:=P2 Tryz.prog D k
variable {Z:Func} {k:bf D} {Y:vE}
variable {a:k.Y->cH D} {V:k.Y->Prop}
def vc (tab:vE) (fn:Func) (k:bf D) (a:k.Y->cH D) (y:k.Y):Prop:=bif Nat.ble (ly (k.args y)) fn.ntmps then Qhr tab fn k a y else False
@[reducible] def WZ:vE->Prop
 | []=>True
 | [k]=>Ok k
 | k::l=>Ok k/\WZ l
theorem WZ.all:∀{l:vE},WZ l->∀k∈l,Ok k
 | [],_,k,hk=>nomatch hk
 | [a],h,k,hk=>by cases hk with
  | head=>exact h
  | tail _ hk=>cases hk
 | a::b::l,h,k,hk=>by cases hk with
  | head=>exact h.1
  | tail _ hk=>exact WZ.all h.2 k hk
theorem D4 {α:Type} (l:List α):ly l=l.length:=by
 induction l with
 | nil=>rfl
 | cons a l b=>show Nat.succ (ly l)=_;rw[b];rfl
theorem okB {y:k.Y} (h:vc Y Z k a y):(k.args y).length<=Z.ntmps/\Qhr Y Z k a y:=by
 unfold vc at h;rw[D4] at h;simp_all
theorem di (h:Z.body.isSome):Z.body=some (GY Z):=by
 grind [GY]
def okW (j:∀y,V y=vc Y Z k a y) (ht:WZ Y) (h:∀y,k.pre y->V y)
  (b:Tryz.prog.funcs[k.f]?=some Z:=by kernel_rfl) (c:Z.body.isSome:=by kernel_rfl):Ok k:=by
 refine⟨⟨Z,_,b,di c⟩,λy l=>?_⟩;obtain⟨h1,d⟩:=okB (Eq.mp (j y) (h y l));exact λM A w hl g i R e=>r6 jU mixed Kp b (di c) (P4 jU ht.all) h1 d M A w hl g i R e
def okZ (tab:vE) (fn:Func) (b:k.Y->cH D) (ht:WZ tab) (h:∀y,k.pre y->V y) (c:∀y,V y=vc tab fn k b y:=by intro y;kernel_rfl)
  (a:Tryz.prog.funcs[k.f]?=some fn:=by kernel_rfl) (d:fn.body.isSome:=by kernel_rfl):Ok k:=okW c ht h a d
theorem xl {g:Type} (l:List g) (k:g->bf D) (me:∀i,(k i).Y->Nat) {fn:g->Func} {tab:g->vE} {iX:∀i,(k i).Y->cH D} (ht:∀i,WZ (tab i)) (a:∀i,Tryz.prog.funcs[(k i).f]?=some (fn i)) (c:∀i,(fn i).body.isSome)
  (r:∀i y,(k i).pre y->vc (l.map (λj=>(k j).under (me j) (me i y))++tab i) (fn i) (k i) (iX i) y):∀i,Ok (k i):=by
 have key:∀n i,Ok ((k i).under (me i) n):=λn=>by
  induction n with
  | zero=>exact λi=>⟨⟨fn i,_,a i,di (c i)⟩,λy b=>absurd b.2 (Zbo _)⟩
  | succ n s=>
   refine λi=>⟨⟨fn i,_,a i,di (c i)⟩,λy b M A w hl o p R m=>?_⟩
   have u:∀j,Ok ((k j).under (me j) (me i y)):=λj=>⟨⟨fn j,_,a j,di (c j)⟩,λt d=>(s j).2 t ⟨d.1,by have:=b.2;have:=d.2;omega⟩⟩
   obtain⟨h1,h⟩:=okB (r i y b.1);exact r6 (k:=k i) jU mixed Kp (a i) (di (c i)) (P4 jU λq e=>by
    rcases Zax.1 e with e | e
    ·grind
    ·exact(ht i).all q e) h1 h M A w hl o p R m
 exact λi=>⟨⟨fn i,_,a i,di (c i)⟩,λy b=>(key (me i y+1) i).2 y ⟨b,Zbr _⟩⟩
def OJ (me:k.Y->Nat) {fn:Func} {tab:vE} {iX:k.Y->cH D} (b:∀y,V y=vc (k.under me (me y)::tab) fn k iX y) (ht:WZ tab) (h:∀y,k.pre y->V y)
  (a:Tryz.prog.funcs[k.f]?=some fn:=by kernel_rfl) (c:fn.body.isSome:=by kernel_rfl):Ok k:=
 xl [()] (λ_=>k) (λ_=>me) (fn:=λ_=>fn) (tab:=λ_=>tab) (iX:=λ_=>iX) (λ_=>ht) (λ_=>a) (λ_=>c) (λ_ y d=>Eq.mp (b y) (h y d)) ()
abbrev By:=List UInt8
abbrev Qu9 (n:Int):AV D.E:=.int .i64 n
def aa {α:Type} (l:List α) (p:Prop):Prop:=List.rec (motive:=λ_=>Prop) p (λa _ b=>a=a/\b) l
@[simp] theorem cG {α:Type} (l:List α) (p:Prop):aa l p=p:=by
 induction l with
 | nil=>rfl
 | cons a l b=>
  grind [aa]
def Tt (n:Nat) (p:Prop):Prop:=Nat.rec (motive:=λ_=>Prop) p (λ_ a=>true/\a) n
@[simp] theorem QbG (n:Nat) (p:Prop):Tt n p=p:=by
 induction n with
 | zero=>rfl
 | succ n a=>
  show(true/\Tt n p)=p
  rw[a];simp
def ag (b:Bool) (p q:Prop):Prop:=(b->p)/\(b=false->q)
@[simp] theorem tm (b:Bool) (p q:Prop):ag b p q=((b->p)/\(b=false->q)):=rfl
def gN {α:Type} (d:α) (l:List α) (x:Nat):α:=gt d l (Int.toNat (x:Int))
@[simp] theorem Quy {α:Type} (d:α) (l:List α) (x:Nat):gN d l x=gt d l x:=rfl
def cX {α:Type} (_:α):cH D:=⟨[],[],[],[],1,[]⟩
end
end sx
namespace sx
open Go Go.RowKit Go.ChangeShapes Go.WideShapes Go.ChangeAt
inductive Lf where
 | int (k:IntKind)
 | bool
 | str
 | sl (e:TypeId)
def Kq (l:List Lf):Nat->List Lf
 | 0=>[]
 | n+1=>l++Kq l n
def MM (P:Program) (g:TypeId->Option (List Lf)):List Field->Nat->Option (List Lf)
 | [],_=>some []
 | f::fs,o=>match g f.type with
  | some l=>if f.offset=o/\l.length=P.cellsOf f.type then(MM P g fs (o+l.length)).map λr=>l++r else none
  | none=>none
def lvs (P:Program):Nat->TypeId->Option (List Lf)
 | 0,_=>none
 | n+1,t=>match P.underlying t with
  | some (.int k)=>some [.int k]
  | some .bool=>some [.bool]
  | some .string=>some [.str]
  | some (.slice e)=>some [.sl e]
  | some (.array m e)=>match lvs P n e with
   | some l=>if l.length=P.cellsOf e/\P.cellsOf t=m*l.length then some (Kq l m) else none
   | none=>none
  | some (.struct a)=>match MM P (lvs P n) a.toList 0 with
   | some l=>if l.length=P.cellsOf t then some l else none
   | none=>none
  | _=>none
theorem um {H:Type} (l:List (DataW H)):Rows.uptoBulkAll l=(l.map Rows.uptoBulk).sum:=by
 induction l with
 | nil=>simp[Rows.uptoBulkAll]
 | cons x r a=>simp only[Rows.uptoBulkAll,Zbl,Zco,a]
section
variable {H:Type} {aX:TypeId×Value->H} {P:Program} {W:World} {held:Bool}
abbrev hJ (aX:TypeId×Value->H) (P:Program) (W:World) (held:Bool):=DataW.trod aX P W 0 (λ_=>true) held
def MN (aX:TypeId×Value->H) (P:Program) (W:World) (held:Bool) (l:Lf) (v:Value) (w:Nat):Prop:=match l with
 | .int k=>∃n,v=.int k n/\(Lit.int k n).wf
 | .bool=>∃b,v=.bool b
 | .str=>∃s:ByteArray,v=.string s/\s.size<=maxLen/\s.data.toList.length<=w
 | .sl e=>v=.slice none 0 0\/∃a len cap n,v=.slice (some a) len cap/\len<=cap/\cap<=maxLen/\∃D:Nat->DataW H,((List.range len).map λi=>Rows.uptoBulk (D i)).sum<=w/\
   ∀i,i<len->∃cs p,W.cells? 0 (a.add (i*P.cellsOf e)) (P.cellsOf e)=some cs/\hJ aX P W held n e cs=some (D i,p)
inductive eZ (aX:TypeId×Value->H) (P:Program) (W:World) (held:Bool):List Lf->List Value->Nat->Prop
 | nil (T:Nat):eZ aX P W held [] [] T
 | cons {l:Lf} {ls:List Lf} {v:Value} {r:List Value} {w T T':Nat} (h:MN aX P W held l v w) (k:eZ aX P W held ls r T) (e:w+T<=T'):eZ aX P W held (l::ls) (v::r) T'
variable {c:List Value} {w:Nat} {a:List Lf}
theorem eZ.mono {T:Nat} (h:eZ aX P W held a c w) (b:w<=T):eZ aX P W held a c T:=by
 cases h with
 | nil=>exact .nil T
 | cons h k e=>exact .cons h k ω
theorem eZ.app {b:List Lf} {d:List Value} {T:Nat} (h:eZ aX P W held a c w) (k:eZ aX P W held b d T):eZ aX P W held (a++b) (c++d) (w+T):=by
 induction h with
 | nil w=>exact k.mono ω
 | cons h _ e f=>exact .cons h f ω
theorem eZ.len (h:eZ aX P W held a c w):a.length=c.length:=by
 induction h with
 | nil=>rfl
 | cons _ _ _ b=>simp[b]
theorem eZ.bX {l:Lf} (h:eZ aX P W held (l::a) c w):∃v r S T,c=v::r/\MN aX P W held l v S/\eZ aX P W held a r T/\S+T<=w:=by
 cases h with
 | cons h k e=>exact⟨_,_,_,_,rfl,h,k,e⟩
def eZ.oq (h:eZ aX P W held [] c w):c=[]:=by cases h;rfl
def eZ.one {l:Lf} {v:Value} (h:MN aX P W held l v w):eZ aX P W held [l] [v] w:=.cons h (.nil 0) ω
theorem Kr {g:TypeId->Option (List Lf)} {cs:List Value} (c:∀t l b m x,g t=some l->hJ aX P W held m t b=some x->eZ aX P W held l b (Rows.uptoBulk x.1)):
  ∀(a:List Field) (xs:List (DataW H×List MemPlace)) (o:Nat) (l:List Lf),MM P g a o=some l->xs.length=a.length->
   (∀(i:Nat) f x,a[i]?=some f->xs[i]?=some x->∃m,hJ aX P W held m f.type ((cs.drop f.offset).take (P.cellsOf f.type))=some x)->
   eZ aX P W held l ((cs.drop o).take l.length) (xs.map λx=>Rows.uptoBulk x.1).sum
 | [],xs,o,l,h,_,_=>by cases h;simpa using eZ.nil _
 | f::a,[],o,l,h,hl,_=>by simp at hl
 | f::a,x::xs,o,l,h,hlx,hx=>by
  unfold MM at h;cases e:g f.type with
  | none=>rw[e] at h;cases h
  | some n=>
   rw[e] at h;simp only at h;split at h
   ·rename_i j
    obtain⟨k,hl⟩:=j;cases e2:MM P g a (o+n.length) with
    | none=>rw[e2] at h;cases h
    | some s=>
     rw[e2] at h;cases h;obtain⟨m,h1⟩:=hx 0 f x rfl rfl;rw[k,<-hl] at h1;have k1:=c _ _ _ _ _ e h1;have k2:=Kr c a xs _ _ e2 (by simpa using hlx) λi d r q p=>hx (i+1) d r (by simpa using q) (by simpa using p)
     rw[Zab,ZdW,ZbZ,Zbl,Zco];exact k1.app k2
   ·cases h
theorem D5 {l:List Lf} {cs:List Value}:∀(xs:List (DataW H×List MemPlace)) (o:Nat),(∀i x,xs[i]?=some x->eZ aX P W held l ((cs.drop (o+i*l.length)).take l.length) (Rows.uptoBulk x.1))->
  eZ aX P W held (Kq l xs.length) ((cs.drop o).take (xs.length*l.length)) (xs.map λx=>Rows.uptoBulk x.1).sum
 | [],o,_=>by simpa [Kq] using eZ.nil _
 | x::xs,o,h=>by
  have h0:=h 0 x rfl;rw[ZbS,Zbn] at h0;have h1:=D5 xs (o+l.length) λi a hi=>by
   have:=h (i+1) a (by simpa using hi);rw[show o+(i+1)*l.length=o+l.length+i*l.length by rw[ZbL];omega] at this;exact this
  rw[Zae,ZbL,Nat.one_mul,Zc1 (xs.length*l.length),ZdW,ZbZ,Zbl,Zco];exact h0.app h1
def xm {xs:List (DataW H×List MemPlace)}:(xs.map λx=>Rows.uptoBulk x.1).sum<=Rows.uptoBulk (DataW.agg (xs.map (·.1))):=by
 simp only[Rows.uptoBulk,um,Zdq];exact ZcR _
theorem qQ:∀(n:Nat) (t:TypeId) (u:List Lf) (cs:List Value) (m:Nat) (x:DataW H×List MemPlace),lvs P n t=some u->hJ aX P W held m t cs=some x->eZ aX P W held u cs (Rows.uptoBulk x.1)
 | 0,t,u,cs,m,x,h,_=>by cases h
 | n+1,t,u,cs,m,x,h,c=>by
  unfold lvs at h;cases hu:P.underlying t with
  | none=>rw[hu] at h;cases h
  | some d=>
   rw[hu] at h;cases d<;>simp only at h<;>(try (cases h;done))
   case bool=>
    cases h;obtain⟨b,rfl,_⟩:=DataW.trod_bool hu c;have:eZ aX P W held [.bool] [.bool b] 0:=.one ⟨b,rfl⟩;exact this.mono (Zaj _)
   case int k=>
    cases h;obtain⟨v,rfl,_,hw⟩:=DataW.trod_int hu c;have:eZ aX P W held [.int k] [.int k v] 0:=.one ⟨v,rfl,hw⟩;exact this.mono (Zaj _)
   case string=>
    cases h;obtain⟨s,rfl,rfl,hs⟩:=DataW.trod_string hu c;refine .one ⟨s,rfl,hs,?_⟩;simp only[Rows.uptoBulk];exact ZcR _
   case slice e=>
    cases h;rcases Go.Deep.open_slice hu c with⟨rfl,_⟩ | ⟨a,len,cap,q,G,D,I,rfl,_,hl,F,r,rfl,C⟩
    ·exact .one (.inl rfl)
    ·simp only[Zbv] at r;subst r;refine .one (.inr ⟨a,len,q,G,rfl,hl,F,D,?_,λi hi=>?_⟩)
     ·simp only[Rows.uptoBulk,um,Zdq];show((List.range len).map (Rows.uptoBulk∘D)).sum<=_
      omega
     ·obtain⟨j,h1,o⟩:=C i ω;exact⟨j,_,h1,o⟩
   case array q e=>
    cases hl:lvs P n e with
    | none=>rw[hl] at h;cases h
    | some l=>
     rw[hl] at h;simp only at h;split at h
     ·rename_i A
      cases h;obtain⟨xs,B,_,rfl,h1,o,w⟩:=DataW.trod_array hu c;subst o;have:=D5 (aX:=aX) (P:=P) (W:=W) (held:=held) (l:=l) (cs:=cs) xs 0 λi x hi=>by
       have y:i<xs.length:=(Zam.1 hi).1;have p:=w i y;rw[hi] at p;rw[Za6,A.1];exact qQ n e l _ _ _ hl p
      rw[ZbQ,ZaA ω] at this;exact this.mono xm
     ·cases h
   case struct z=>
    cases hl:MM P (lvs P n) z.toList 0 with
    | none=>rw[hl] at h;cases h
    | some l=>
     rw[hl] at h;simp only at h;split at h
     ·rename_i A
      cases h;obtain⟨xs,B,_,rfl,h1,o,w⟩:=DataW.trod_struct hu c;have:=Kr (aX:=aX) (P:=P) (W:=W) (held:=held) (g:=lvs P n) (cs:=cs) (λt l j m x=>qQ n t l j m x) z.toList xs 0 u hl (by simpa using o) λi f x E c=>by
       have p:=w i f (by simpa using E);rw[c] at p;exact⟨B,p⟩
      rw[ZbQ,ZaA ω] at this;exact this.mono xm
     ·cases h
end
end sx
namespace sx
open Go Go.RowKit
variable {x b:Int} {k:IntKind} {m:Nat}
theorem dP {a b:Int}:aC a b↔a<=b:=by simp[aC]
def QbI {a b:Int}:aC a b=false↔b<a:=by simp[aC]
def gf {a b:Int}:ax a b↔a<b:=by simp[ax]
def gG {a b:Int}:ax a b=false↔b<=a:=by simp[ax]
def gg {a b:Int}:az a b↔a=b:=by simp[az]
def iH {a b:Int}:az a b=false↔a≠b:=by simp[az]
def xn {a b:By}:seq a b↔a=b:=by simp[seq]
def aU:fits x m↔x*m<=140737488355328:=by simp[fits]
theorem D6:mv .i64 x↔-9223372036854775808<=x/\x<=9223372036854775807:=by rw[cB];simp only[CU,sY]
def Qd4:mv .u64 x↔0<=x/\x<=18446744073709551615:=by rw[cB];simp only[CU,sY]
theorem aV {a:Int} (h1: -9223372036854775808<=a+b) (c:a+b<=9223372036854775807):an .i64 a b=a+b:=dF (D6.2 ⟨h1,c⟩)
theorem o6 {a:Int} (h1: -9223372036854775808<=a-b) (c:a-b<=9223372036854775807):da .i64 a b=a-b:=dF (D6.2 ⟨h1,c⟩)
theorem Qhs (h1:0<=x) (b:x<=18446744073709551615):wc .u64 x=x:=dF (Qd4.2 ⟨h1,b⟩)
theorem aj {α:Type} (l:List α):ab l=(l.length:Int):=rfl
theorem aO {α:Type} (a b:List α):aZ a b=a++b:=rfl
theorem BX (h1: -9223372036854775808<=x*b) (c:x*b<=9223372036854775807):iR .i64 x b=x*b:=dF (D6.2 ⟨h1,c⟩)
theorem lO (s:By):eO s=(s.length:Int):=rfl
def XS (k:IntKind):sY k<(uH k:Int):=by cases k<;>decide
theorem QR (k:IntKind):CU k<=0:=by cases k<;>decide
def vF (h:(m:Int)<=sY k):C4 k (m:Int)=m:=by
 have:=XS k;show Nat.mod m (uH k)=m
 exact Zdr ω
theorem D7 (h:(m:Int)<=sY k):k.wrap (m:Int)=m:=dF (cB.2 ⟨by grind [QR],h⟩)
def Ks {n:Nat} (a:(m:Int)<=sY k) (b:((2 ^ n-1:Nat):Int)<=sY k):ql k (m:Int) ((2 ^ n-1:Nat):Int)=((m % 2 ^ n:Nat):Int):=by
 unfold ql;rw[vF a,vF b];have e:Nat.land m (2 ^ n-1)=m % 2 ^ n:=Nat.and_two_pow_sub_one_eq_mod m n;rw[e];exact D7 (m:=m % 2 ^ n) ω
def QT (h0:0<=x) (h1:x<=sY k):ql k x 63=x % 64:=by
 obtain⟨m,rfl⟩:=Zau h0;exact(Ks (n:=6) h1 (by cases k<;>decide)).trans (by simp)
def QU (h0:0<=x) (h1:x<=sY k):ql k x 31=x % 32:=by
 obtain⟨m,rfl⟩:=Zau h0;exact(Ks (n:=5) h1 (by cases k<;>decide)).trans (by simp)
def QV (h0:0<=x) (h1:x<=sY k):ql k x 15=x % 16:=by
 obtain⟨m,rfl⟩:=Zau h0;exact(Ks (n:=4) h1 (by cases k<;>decide)).trans (by simp)
def QbJ (h0:0<=x) (h1:x<=sY k):ql k x 7=x % 8:=by
 obtain⟨m,rfl⟩:=Zau h0;exact(Ks (n:=3) h1 (by cases k<;>decide)).trans (by simp)
def Qht {a b n:Nat} (c:b<2 ^ n) (h:((2 ^ n*a+b:Nat):Int)<=sY k):OB k ((2 ^ n*a:Nat):Int) (b:Int)=((2 ^ n*a+b:Nat):Int):=by
 unfold OB;rw[vF ω,vF ω];have e:Nat.lor (2 ^ n*a) b=2 ^ n*a+b:=(Nat.two_pow_add_eq_or_of_lt c a).symm;rw[e];exact D7 h
def QbK (a:m<=k.bits) (h0:0<=x) (h1:x*2 ^ m<=sY k):sW k x (m:Int)=x*2 ^ m:=by
 unfold sW;rw[Zad,Zbj a];exact dF (cB.2 ⟨by have:=QR k;have:=Int.mul_nonneg h0 (show(0:Int)<=2 ^ m from ZdZ (Int.pow_pos (by decide)));omega,h1⟩)
theorem six (h0:0<=x) (h1:x<33554432) (d:0<=b) (b1:b<64):OB .i32 (sW .i32 x 6) b=x*64+b:=by
 have e:sW .i32 x ((6:Nat):Int)=x*2 ^ 6:=QbK (by decide) h0 (by show x*2 ^ 6<=2147483647;omega);rw[show(6:Int)=((6:Nat):Int) from rfl,e];obtain⟨m,rfl⟩:=Zau h0;obtain⟨c,rfl⟩:=Zau d;have:=Qht (k:=.i32) (a:=m) (b:=c) (n:=6) ω (by show _<=(2147483647:Int);omega);grind
def vG (h0:CU k<=x) (h1:x<=sY k):wc k x=x:=dF (cB.2 ⟨h0,h1⟩)
attribute [grind=] aV o6 BX aj aO lO cG QbG tm
@[grind=] theorem QuA (a b:Int):ax a b=decide (a<b):=rfl
@[grind=] theorem Qhu (a b:Int):aC a b=decide (a<=b):=rfl
@[grind=] theorem uo (a b:Int):az a b=decide (a=b):=rfl
@[grind=] theorem QnV (a:Int) (n:Nat):fits a n=decide (a*n<=140737488355328):=rfl
@[grind=] theorem dA {α:Type} (d:α) (l:List α) (n:Nat):gt d l n=l.getD n d:=rfl
@[grind=] theorem QuB (a b:By):seq a b=decide (a=b):=rfl
@[grind=] theorem db (p:Prop):Iv p=p:=propext ⟨λh=>h.out,λh=>⟨h⟩⟩
def Qbt:=And.intro @cG (And.intro @QbG (And.intro @tm Zai))
def dq:=And.intro Qbt (And.intro @db Zal)
def QaU:=And.intro @gg (And.intro @iH (And.intro @dP (And.intro @QbI (And.intro @gf @gG))))
end sx
namespace syn
open Go Go.RowKit cls
variable {l:List UInt8} {i:Nat}
def D8 {G:List Gt} (h:i<G.length):G[i]?=some (G.getD i (0,0)):=getD_eq h _
theorem kR {m:List Rg} (h:cls.Good m):aL m=m:=DX h λr=>by
 cases a:hasB m r
 ·simp
 ·obtain⟨p,b,h1,c⟩:=(r7 m r).1 a;have:=h.1 p b;grind [gu,tg]
theorem pT {r:Int} (h:fF r):eh r=[(r,r)]:=by
 have b:=(gu r).1 h;refine kR ⟨λp a=>?_,by simp⟩;grind [tg]
def bQ (c:Nat):Int×Nat×Nat:=
 if c<128 then(0,0,0) else if c<194 then(-1,0,0) else if c<224 then(1,128,191) else if c=224 then(2,160,191) else if c=237 then(2,128,159)
 else if c<240 then(2,128,191) else if c=240 then(3,144,191) else if c<244 then(3,128,191) else if c=244 then(3,128,143) else(-1,0,0)
def dj:Nat->Int->Nat->Nat->List UInt8->Option Int
 | 0,r,_,_,_=>some r
 | _+1,_,_,_,[]=>none
 | k+1,r,lo,hi,b::t=>if b.toNat<lo\/hi<b.toNat then none else dj k (r*64+b.toNat % 64) 128 191 t
def start (k:Int) (c:Nat):Int:=if k=0 then c else if k=1 then(c % 32:Nat) else if k=2 then(c % 16:Nat) else(c % 8:Nat)
def bq:List UInt8->Int×Int
 | []=>(0,0)
 | c::t=>if (bQ c.toNat).1<0 then(0,0) else match dj (bQ c.toNat).1.toNat (start (bQ c.toNat).1 c.toNat) (bQ c.toNat).2.1 (bQ c.toNat).2.2 t with
  | some r=>(r,(bQ c.toNat).1+1)
  | none=>(0,0)
def ji (c:Nat):((bQ c).1= -1\/(bQ c).1=0\/(bQ c).1=1\/(bQ c).1=2\/(bQ c).1=3)/\(bQ c).2.1<256/\(bQ c).2.2<256:=by
 unfold bQ
 repeat' split
 all_goals simp
theorem uq (x:UInt8) (t:List UInt8) {n:Nat} {k:Int} {lo hi:Nat} (b:x.toNat=n) (a:bQ n=(k,lo,hi)):bq (x::t)=if k<0 then(0,0) else match dj k.toNat (start k n) lo hi t with
  | some r=>(r,k+1)
  | none=>(0,0):=by
 grind [bq]
def iI:Nat->List UInt8->List Gt
 | 0,_=>[]
 | n+1,l=>if l=[] then[] else if (bq l).2=0 then(65533,1)::iI n (l.drop 1) else bq l::iI n (l.drop (bq l).2.toNat)
def aR (l:List UInt8):List Gt:=iI l.length l
theorem qR:∀(k:Nat) (r:Int) (lo hi:Nat) (t:List UInt8) (x:Int),dj k r lo hi t=some x->k<=t.length
 | 0,_,_,_,_,_,_=>Zaj _
 | k+1,r,lo,hi,[],x,h=>by cases h
 | k+1,r,lo,hi,b::t,x,h=>by
  rw[dj] at h;split at h
  ·cases h
  ·have:=qR k _ _ _ t x h;simp;omega
theorem jj (l:List UInt8):(bq l).2=0\/∃n:Nat,(bq l).2=n/\1<=n/\n<=l.length/\n<=4:=by
 rcases l with _ | ⟨c,t⟩
 ·exact .inl rfl
 ·have d:=(ji c.toNat).1;obtain⟨m,b⟩:∃m,bQ c.toNat=m:=⟨_,rfl⟩;obtain⟨k,lo,hi⟩:=m;rw[uq c t rfl b];rw[b] at d;split
  ·omega
  ·cases a:dj k.toNat (start k c.toNat) lo hi t with
   | none=>exact .inl rfl
   | some r=>
    have:=qR _ _ _ _ _ _ a;refine .inr ⟨k.toNat+1,?_,?_,?_,?_⟩
    ·grind
    ·omega
    ·grind
    ·omega
theorem mQ (n:Nat):iI n []=[]:=by cases n<;>rfl
theorem mS (h:l≠[]) (h0:(bq l).2=0):iI (i+1) l=(65533,1)::iI i (l.drop 1):=by grind [iI]
theorem o7 (h:l≠[]) {m:Nat} (h0:(bq l).2=m) (a:1<=m):iI (i+1) l=bq l::iI i (l.drop m):=by
 grind [iI]
theorem qS:∀(n k:Nat) (l:List UInt8),l.length<=n->l.length<=k->iI n l=iI k l
 | 0,k,l,h,_=>by
  grind [mQ]
 | n+1,0,l,_,h=>by
  grind [mQ]
 | n+1,k+1,l,h,b=>by
  by_cases hl:l=[]
  ·grind [mQ]
  ·rcases jj l with h0 | ⟨m,a,h1,c,_⟩
   ·rw[mS hl h0,mS hl h0,qS n k _ (by grind) (by grind)]
   ·rw[o7 hl a h1,o7 hl a h1,qS n k _ (by grind) (by grind)]
theorem MJ {r lo hi x} (h:dj 1 r lo hi l=some x):∃b:Nat,lo<=b/\b<=hi/\x=r*64+(b % 64:Nat):=by
 cases l with
 | nil=>cases h
 | cons b l=>
  grind [dj]
theorem MK {r lo hi x} (h:dj 2 r lo hi l=some x):∃b d:Nat,lo<=b/\b<=hi/\128<=d/\d<=191/\x=(r*64+(b % 64:Nat))*64+(d % 64:Nat):=by
 cases l with
 | nil=>cases h
 | cons b l=>
  rw[dj] at h;split at h
  ·cases h
  ·obtain⟨d,h1,a,c⟩:=MJ h;exact⟨b.toNat,d,ω,ω,h1,a,by assumption⟩
theorem Qr {r lo hi x} (h:dj 3 r lo hi l=some x):∃b d f:Nat,lo<=b/\b<=hi/\128<=d/\d<=191/\128<=f/\f<=191/\x=((r*64+(b % 64:Nat))*64+(d % 64:Nat))*64+(f % 64:Nat):=by
 cases l with
 | nil=>cases h
 | cons b l=>
  rw[dj] at h;split at h
  ·cases h
  ·obtain⟨d,f,h1,a,c,e,g⟩:=MK h;exact⟨b.toNat,d,f,ω,ω,h1,a,c,e,by assumption⟩
def GZ (n:Nat):(n<128/\bQ n=(0,0,0))\/bQ n=(-1,0,0)\/(194<=n/\n<224/\bQ n=(1,128,191))\/(n=224/\bQ n=(2,160,191))\/(n=237/\bQ n=(2,128,159))\/
  (225<=n/\n<240/\n≠237/\bQ n=(2,128,191))\/(n=240/\bQ n=(3,144,191))\/(241<=n/\n<244/\bQ n=(3,128,191))\/(n=244/\bQ n=(3,128,143)):=by
 unfold bQ
 repeat' split
 all_goals simp
 all_goals omega
theorem D9:∀l:List UInt8,(bq l).2≠0->fF (bq l).1
 | [],h=>absurd rfl h
 | c::t,h=>by
  have d:=λ{k:Int} {lo hi:Nat}=>uq c t (n:=c.toNat) (k:=k) (lo:=lo) (hi:=hi) rfl
  rw[gu];rcases GZ c.toNat with⟨h1,a⟩ | a | ⟨h1,b,a⟩ | ⟨h1,a⟩ | ⟨h1,a⟩ | ⟨h1,b,e,a⟩ | ⟨h1,a⟩ | ⟨h1,b,a⟩ | ⟨h1,a⟩
  all_goals grind [dj,start,MJ,MK,Qr]
theorem o8:∀(n:Nat) (l:List UInt8),∀g∈iI n l,fF g.1
 | 0,l,g,h=>by cases h
 | n+1,l,g,h=>by
  by_cases hl:l=[]
  ·grind [mQ]
  ·rcases jj l with h0 | ⟨m,a,h1,b,c⟩
   ·rw[mS hl h0] at h;rcases Zbf.1 h with rfl | h
    ·decide
    ·exact o8 n _ g h
   ·rw[o7 hl a h1] at h;rcases Zbf.1 h with rfl | h
    ·grind [D9]
    ·exact o8 n _ g h
theorem xp (h:i<(aR l).length):fF (aD (aR l) i):=
 o8 _ _ _ (ZaJ (D8 h))
theorem Kt (l:List UInt8) (i:Nat):0<=aD (aR l) i:=by
 grind [gu,xp,aD]
def s3:aL [(9,10),(13,13),(32,32)]=[(9,10),(13,13),(32,32)]:=kR ⟨by simp[tg],by simp⟩
def w4:aL [(48,57),(65,90),(95,95),(97,122)]=[(48,57),(65,90),(95,95),(97,122)]:=kR ⟨by simp[tg],by simp⟩
theorem G0 (l:List UInt8):Fx (aR l) where
 one i h:=pT (xp h)
 n:=pT (by decide)
 t:=pT (by decide)
 r:=pT (by decide)
 d:=kR ⟨by simp[tg],by simp⟩
 s:=by rw[s3];rfl
 w:=by rw[w4];rfl
 s0:=by rw[s3];simp
 w0:=by rw[w4];simp
 not l:=by
  show aL (ib 0 (aL (aL l)))=aL (ib 0 (aL l))
  rw[kR (dN l).1]
theorem G8 (l:List UInt8):GQ (aR l)=xc (aR l):=MH (G0 l)
end syn
set_option maxRecDepth 100000
set_option maxHeartbeats 4000000
namespace sx
noncomputable section
open Go Go.RowKit cls syn
def jJ:Nat->Nat->Nat->By->Bool
 | 0,_,_,_=>false
 | _+1,_,_,[]=>true
 | k+1,lo,hi,b::t=>if b.toNat<lo\/hi<b.toNat then false else jJ k 128 191 t
def mo (y:By):Int×Nat×Nat:=bQ (y.getD 0 0).toNat
def gz (y:By):Bool:=decide (y≠[])&&decide (0<=(mo y).1)&&jJ (mo y).1.toNat (mo y).2.1 (mo y).2.2 (y.drop 1)
def in1 (args:List (AV D.E)):C Int:=match args with
 | [a]=>aI (cT a) λ_ n=>.ret n
 | _=>.fail
def QW (args:List (AV D.E)) (s:St D.E):C By:=match args with
 | [a]=>av (rowsOf D s 0 a) λl=>.ret (l:By)
 | _=>.fail
def G9 (y:Int):Prop:=0<=y/\y<256
abbrev bZ (f:FuncId) (Y:Type) (zy:List (AV D.E)->St D.E->C Y) (pre:Y->Prop) (args:Y->List (AV D.E)) (res:Y->AV D.E):bf D:=⟨f,Y,zy,pre,args,λ_=>[],res,λ_=>[],0,0⟩
def Am:bf D:=bZ 107 Int (λa _=>in1 a) G9 (λy=>[.int .u8 y]) λy=>.tuple [Qu9 (bQ y.toNat).1,.int .u8 ((bQ y.toNat).2.1:Nat),.int .u8 ((bQ y.toNat).2.2:Nat)]
def Qhw (_:Am.Y):cH D:=cX ()
def qT:bf D:=bZ 74 By QW (λ_=>True) (λy=>[.list 0 y]) λy=>.tuple [.int .i32 (bq y).1,Qu9 (bq y).2,.bool (gz y)]
def rC (y:By) (i:Nat):Int:=if i=1 then((mo y).2.1:Nat) else 128
def rD (y:By) (i:Nat):Int:=if i=1 then((mo y).2.2:Nat) else 191
def uO (y:By):Int:=syn.start (mo y).1 (y.getD 0 0).toNat
def xq (y:By) (i:Nat) (r:Int):Prop:=1<=i/\(i:Int)<=(mo y).1+1/\0<=r/\r<128*64 ^ (i-1)/\dj (mo y).1.toNat (uO y) (mo y).2.1 (mo y).2.2 (y.drop 1)=dj ((mo y).1.toNat+1-i) r (rC y i).toNat (rD y i).toNat (y.drop i)/\
 jJ (mo y).1.toNat (mo y).2.1 (mo y).2.2 (y.drop 1)=jJ ((mo y).1.toNat+1-i) (rC y i).toNat (rD y i).toNat (y.drop i)
def Qd5 (y:qT.Y):cH D:=⟨[],[],[(1018,⟨Nat×Int,[0,5],λx=>[(2,.int .i32 x.2),(6,.int .u8 (rC y x.1)),(7,.int .u8 (rD y x.1)),(8,Qu9 x.1)],[],λ_=>[],0,λx=>xq y x.1 x.2,λx=>5-x.1⟩)],
 [(63,⟨Unit,[0,5,6,7],λ_=>[(2,.int .i32 (uO y))],[],λ_=>[],0,λ_=>True,λ_=>0⟩)],1,[]⟩
def G':bf D:=bZ 41 By QW (λy=>y.length<=1000000) (λy=>[.list 0 y]) λy=>.list 13 (aR y)
def QnW (y:G'.Y):cH D:=⟨[],[],[(28,⟨By×List Gt,[],λx=>[(0,.list 0 x.1),(3,.grow 13 x.2 0)],[],λ_=>[(0,.tok 13 117)],1,λx=>x.2++aR x.1=aR y/\x.1.length+x.2.length<=y.length,λx=>x.1.length⟩)],[],1,[]⟩
structure iy where
 pl:List Int
 us:List Item
def og (b n m:Nat) (y:iy):List (Nat×AO D.E):=[(b,.cells [.own n 1 (ab y.pl),.own m 2 (ab y.us)] 249 false),(n,.arr 5 y.pl 3 false),(m,.arr 18 y.us 278 false)]
def XT (v:AV D.E) (s:St D.E):C iy:=match v with
 | .ptr b _=>av (cE (s.h.get b)) λo=>match o with
  | .cells cs _ _=>match cs with
   | [p,l]=>av (rowsOf D s 5 p) λp=>av (rowsOf D s 18 l) λl=>.ret ⟨p,l⟩
   | _=>.fail
  | _=>.fail
 | _=>.fail
def XU (y:iy):Prop:=y.pl.length<=4096/\y.us.length<=4096/\∀v∈y.pl,(0:Int)<=v
def tA:Item:=⟨0,false⟩
def i_:List Item:=[]
def uP (n:Int):List Int:=List.replicate n.toNat 0
def si (y:iy) (i:Int):Bool:=decide (0<=i)&&decide (i<y.pl.length)&&decide (y.pl.getD i.toNat 0<y.us.length)&&decide ((y.us.getD (y.pl.getD i.toNat 0).toNat tA).i=i)
def fu (y:iy) (i:Int):Bool:=decide (0<=i)&&decide (i<y.pl.length)&&!si y i
def dk (y:iy) (i:Int) (x:Bool):iy:=if fu y i=true then⟨y.pl.set i.toNat y.us.length,y.us++[⟨i,x⟩]⟩ else y
def XV:bf D:=⟨186,iy×Int,λa s=>match a with
 | [p,i]=>av (XT p s) λy=>aI (cT i) λ_ i=>.ret (y,i)
 | _=>.fail,λy=>XU y.1,λy=>[.ptr 0 0,Qu9 y.2],λy=>og 0 1 2 y.1,λy=>.bool (si y.1 y.2),λy=>og 0 1 2 y.1,3,3⟩
def QX:bf D:=⟨158,iy×Int×Bool,λa s=>match a with
 | [p,i,x]=>av (XT p s) λy=>aI (cT i) λ_ i=>aI (yR x) λx _=>.ret (y,i,x)
 | _=>.fail,λy=>XU y.1/\y.1.us.length<4096,λy=>[.ptr 0 0,Qu9 y.2.1,.bool y.2.2],λy=>og 0 1 2 y.1,λy=>.bool (fu y.1 y.2.1),λy=>og 0 1 3 (dk y.1 y.2.1 y.2.2),3,4⟩
def QY:bf D:=⟨156,iy,λa s=>match a with
 | [p]=>XT p s
 | _=>.fail,λ_=>True,λ_=>[.ptr 0 0],λy=>og 0 1 2 y,λ_=>.tuple [],λy=>og 0 1 3 ⟨y.pl,i_⟩,3,4⟩
def QZ:bf D:=⟨130,Int,λa _=>match a with
 | [n]=>aI (cT n) λ_ n=>.ret n
 | _=>.fail,λy=>0<=y/\y<=4096,λy=>[Qu9 y],λ_=>[],λ_=>.tuple [.ptr 0 0,.num .i64 0],λy=>og 0 1 2 ⟨uP y,i_⟩,0,3⟩
structure D' where
 n:Int
 l:Bool
def lnO (y:D'):List (Nat×AO D.E):=[(0,.cells [.int .i64 y.n,.bool y.l] 169 false)]
def D_:bf D:=⟨31,D',λa _=>match a with
 | [n,l]=>aI (cT n) λ_ n=>aI (yR l) λl _=>.ret ⟨n,l⟩
 | _=>.fail,λy=>0<=y.n/\y.n<=200/\(y.l->y.n=0),λy=>[Qu9 y.n,.bool y.l],λ_=>[],λ_=>.tuple [.ptr 0 0,.num .i64 0],lnO,0,1⟩
def G_ (y:D') (c:Int):Int:=if c=10 then(if y.l=true then 5 else 2) else if y.l=true then 4 else if 200<=y.n then 3 else 1
def XW (y:D') (c:Int):D':=if c=10 then⟨0,false⟩ else if y.l=true then y else if 200<=y.n then⟨0,true⟩ else⟨y.n+1,y.l⟩
def Ea:bf D:=⟨32,D'×Int,λa s=>match a with
 | [p,c]=>match p with
  | .ptr b _=>av (cE (s.h.get b)) λo=>match o with
   | .cells cs _ _=>match cs with
    | [n,l]=>aI (cT n) λ_ n=>aI (yR l) λl _=>aI (cT c) λ_ c=>.ret (⟨n,l⟩,c)
    | _=>.fail
   | _=>.fail
  | _=>.fail
 | _=>.fail,λy=>0<=y.1.n/\y.1.n<=200,λy=>[.ptr 0 0,.int .u8 y.2],λy=>lnO y.1,λy=>Qu9 (G_ y.1 y.2),λy=>lnO (XW y.1 y.2),1,1⟩
end
end sx
end Go.Proofs.YtadfknojfbmjgaaGreat
