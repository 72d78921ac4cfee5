/- PointAny: a part of the proof. -/
import Derived.Test.YtiiiphndmbabcaaGreatC3
import Derived.Test.YtiiiphndmbabcaaGreatProg
import Derived.KernelRfl
import Derived.Test.YtiiiphndmbabcaaGreatRows
import Derived.OpenShut
import Derived.ProofKit
import Derived.Deep.Slices
set_option linter.all false
namespace Go.Proofs.YtiiiphndmbabcaaGreat
open Go.Proofs.Tryz
namespace sx
open Go Go.RowKit cls
open syn (Nd Gt)
noncomputable section
structure aX where
 pc:Int
 c0:Int
 c1:Int
 c2:Int
 c3:Int
 c4:Int
 c5:Int
 c6:Int
 c7:Int
 c8:Int
 c9:Int
structure dd where
 done:Bool
 c0:Int
 c1:Int
 c2:Int
 c3:Int
 c4:Int
 c5:Int
 c6:Int
 c7:Int
 c8:Int
 c9:Int
 aJ:List aX
structure iX where
 name:List UInt8
 text:List UInt8
structure Ks where
 kind:Int
 pos:Int
 QnE:Int
 c0:Int
 c1:Int
 c2:Int
 c3:Int
 c4:Int
 c5:Int
 c6:Int
 c7:Int
 c8:Int
 c9:Int
structure aW where
 op:Int
 x:Int
 y:Int
 bm:List Rg
structure cn where
 c0:Int
 c1:Int
 c2:Int
 c3:Int
 c4:Int
 c5:Int
 c6:Int
 c7:Int
 c8:Int
 c9:Int
inductive ah where
 | mk (op:Int) (r:List Rg) (mn:Int) (mx:Int) (lz:Bool) (cap:Int) (nk:Int) (ae:List ah)
def ah.op (x:ah):Int:=match x with
 | .mk a _ _ _ _ _ _ _=>a
def ah.r (x:ah):List Rg:=match x with
 | .mk _ a _ _ _ _ _ _=>a
def ah.mn (x:ah):Int:=match x with
 | .mk _ _ a _ _ _ _ _=>a
def ah.mx (x:ah):Int:=match x with
 | .mk _ _ _ a _ _ _ _=>a
def ah.lz (x:ah):Bool:=match x with
 | .mk _ _ _ _ a _ _ _=>a
def ah.cap (x:ah):Int:=match x with
 | .mk _ _ _ _ _ a _ _=>a
def ah.nk (x:ah):Int:=match x with
 | .mk _ _ _ _ _ _ a _=>a
def ah.ae (x:ah):List ah:=match x with
 | .mk _ _ _ _ _ _ _ a=>a
structure Row where
 k:List UInt8
 v:Int
structure Item where
 i:Int
 x:Bool
structure Q5 where
 piece:List UInt8
 times:Int
 jH:Bool
structure Q6 where
 h:List UInt8
 m:Int
 L:List dd
def El (c:Nat):Type:=match c with
 | 0=>UInt8
 | 1=>aX
 | 2=>dd
 | 3=>iX
 | 4=>Ks
 | 5=>Int
 | 6=>Rg
 | 7=>Nd
 | 8=>aW
 | 9=>List Nd
 | 10=>List UInt8
 | 11=>cn
 | 12=>List dd
 | 13=>Gt
 | 14=>Int
 | 15=>ah
 | 16=>Row
 | 17=>Bool
 | 18=>Item
 | 19=>Q5
 | 20=>Q6
 | 21=>List UInt8
 | _=>Unit
def szD (c:Nat):Nat:=match c with
 | 0=>1
 | 1=>11
 | 2=>12
 | 3=>2
 | 4=>13
 | 5=>1
 | 6=>2
 | 7=>7
 | 8=>4
 | 9=>1
 | 10=>1
 | 11=>10
 | 12=>1
 | 13=>2
 | 14=>1
 | 15=>8
 | 16=>2
 | 17=>1
 | 18=>2
 | 19=>3
 | 20=>3
 | 21=>1
 | _=>1
def dj (c:Nat):El c->List (AV El):=match c with
 | 0=>λ(x:UInt8)=>[.int .u8 x.toNat]
 | 1=>λ(x:aX)=>[.int .i64 x.pc,.int .i64 x.c0,.int .i64 x.c1,.int .i64 x.c2,.int .i64 x.c3,.int .i64 x.c4,.int .i64 x.c5,.int .i64 x.c6,.int .i64 x.c7,.int .i64 x.c8,.int .i64 x.c9]
 | 2=>λ(x:dd)=>[.bool x.done,.int .i64 x.c0,.int .i64 x.c1,.int .i64 x.c2,.int .i64 x.c3,.int .i64 x.c4,.int .i64 x.c5,.int .i64 x.c6,.int .i64 x.c7,.int .i64 x.c8,.int .i64 x.c9,.list 1 x.aJ]
 | 3=>λ(x:iX)=>[.str x.name,.str x.text]
 | 4=>λ(x:Ks)=>[.int .i64 x.kind,.int .i64 x.pos,.int .i64 x.QnE,.int .i64 x.c0,.int .i64 x.c1,.int .i64 x.c2,.int .i64 x.c3,.int .i64 x.c4,.int .i64 x.c5,.int .i64 x.c6,.int .i64 x.c7,.int .i64 x.c8,.int .i64 x.c9]
 | 5=>λ(x:Int)=>[.int .i64 x]
 | 6=>λ(x:Rg)=>[.int .i32 x.1,.int .i32 x.2]
 | 7=>λ(x:Nd)=>[.int .i64 x.op,.list 6 x.r,.int .i64 x.mn,.int .i64 x.mx,.bool x.lz,.int .i64 x.cap,.int .i64 x.ae]
 | 8=>λ(x:aW)=>[.int .i64 x.op,.int .i64 x.x,.int .i64 x.y,.list 6 x.bm]
 | 9=>λ(x:List Nd)=>[.list 7 x]
 | 10=>λ(x:List UInt8)=>[.str x]
 | 11=>λ(x:cn)=>[.int .i64 x.c0,.int .i64 x.c1,.int .i64 x.c2,.int .i64 x.c3,.int .i64 x.c4,.int .i64 x.c5,.int .i64 x.c6,.int .i64 x.c7,.int .i64 x.c8,.int .i64 x.c9]
 | 12=>λ(x:List dd)=>[.list 2 x]
 | 13=>λ(x:Gt)=>[.int .i32 x.1,.int .i64 x.2]
 | 14=>λ(x:Int)=>[.int .i32 x]
 | 15=>λ(x:ah)=>[.int .i64 x.op,.list 6 x.r,.int .i64 x.mn,.int .i64 x.mx,.bool x.lz,.int .i64 x.cap,.int .i64 x.nk,.list 15 x.ae]
 | 16=>λ(x:Row)=>[.str x.k,.int .i64 x.v]
 | 17=>λ(x:Bool)=>[.bool x]
 | 18=>λ(x:Item)=>[.int .i64 x.i,.bool x.x]
 | 19=>λ(x:Q5)=>[.str x.piece,.int .i64 x.times,.bool x.jH]
 | 20=>λ(x:Q6)=>[.list 0 x.h,.int .i64 x.m,.list 2 x.L]
 | 21=>λ(x:List UInt8)=>[.list 0 x]
 | _=>λ_=>[.int .i64 0]
def cD (k:IntKind) (v:AV El):Option Int:=match v with
 | .int a n=>oI (BI k a) (some n)
 | .num a n=>oI (BI k a) (some n)
 | _=>none
def Ei (v:AV El):Option Bool:=match v with
 | .bool b=>some b
 | .lit b=>some b
 | _=>none
def GV (v:AV El):Option (List UInt8):=match v with
 | .str s=>some s
 | _=>none
def Kt (c a:Nat) (xs:List (El a)):Option (List (El c)):=Decidable.rec (motive:=λ_=>Option (List (El c))) (λ_=>none) (λh=>some (Eq.rec (motive:=λc _=>List (El c)) xs h)) (Nat.decEq a c)
def uZ (c:Nat) (v:AV El):Option (List (El c)):=match v with
 | .list a xs=>Kt c a xs
 | .grow a xs _=>Kt c a xs
 | .dF=>some []
 | _=>none
def b8 (n:Int):UInt8:=UInt8.ofNat n.toNat
def Qd8 (l:List (AV El)):Option (El 0):=match l with
 | [a0]=>oB (cD .u8 a0) λa0=>some (b8 a0)
 | _=>none
def xE (l:List (AV El)):Option (El 1):=match l with
 | [a0,b,a2,a3,a4,a5,c,d,e,a9,a]=>oB (cD .i64 a0) λa0=>oB (cD .i64 b) λb=>oB (cD .i64 a2) λa2=>oB (cD .i64 a3) λa3=>oB (cD .i64 a4) λa4=>oB (cD .i64 a5) λa5=>oB (cD .i64 c) λc=>oB (cD .i64 d) λd=>oB (cD .i64 e) λe=>oB (cD .i64 a9) λa9=>oB (cD .i64 a) λa=>some (aX.mk a0 b a2 a3 a4 a5 c d e a9 a)
 | _=>none
def GW (l:List (AV El)):Option (El 2):=match l with
 | [a0,c,a2,a3,a4,a5,d,e,f,a9,a,b]=>oB (Ei a0) λa0=>oB (cD .i64 c) λc=>oB (cD .i64 a2) λa2=>oB (cD .i64 a3) λa3=>oB (cD .i64 a4) λa4=>oB (cD .i64 a5) λa5=>oB (cD .i64 d) λd=>oB (cD .i64 e) λe=>oB (cD .i64 f) λf=>oB (cD .i64 a9) λa9=>oB (cD .i64 a) λa=>oB (uZ 1 b) λb=>some (dd.mk a0 c a2 a3 a4 a5 d e f a9 a b)
 | _=>none
def Q7 (l:List (AV El)):Option (El 3):=match l with
 | [a0,a]=>oB (GV a0) λa0=>oB (GV a) λa=>some (iX.mk a0 a)
 | _=>none
def Qd9 (l:List (AV El)):Option (El 4):=match l with
 | [a0,c,a2,a3,a4,a5,d,e,f,a9,a,b,a12]=>oB (cD .i64 a0) λa0=>oB (cD .i64 c) λc=>oB (cD .i64 a2) λa2=>oB (cD .i64 a3) λa3=>oB (cD .i64 a4) λa4=>oB (cD .i64 a5) λa5=>oB (cD .i64 d) λd=>oB (cD .i64 e) λe=>oB (cD .i64 f) λf=>oB (cD .i64 a9) λa9=>oB (cD .i64 a) λa=>oB (cD .i64 b) λb=>oB (cD .i64 a12) λa12=>some (Ks.mk a0 c a2 a3 a4 a5 d e f a9 a b a12)
 | _=>none
def Qea (l:List (AV El)):Option (El 5):=match l with
 | [a0]=>oB (cD .i64 a0) λa0=>some a0
 | _=>none
def Qeb (l:List (AV El)):Option (El 6):=match l with
 | [a0,a]=>oB (cD .i32 a0) λa0=>oB (cD .i32 a) λa=>some (Prod.mk a0 a)
 | _=>none
def Qec (l:List (AV El)):Option (El 7):=match l with
 | [a0,a,a2,a3,a4,a5,b]=>oB (cD .i64 a0) λa0=>oB (uZ 6 a) λa=>oB (cD .i64 a2) λa2=>oB (cD .i64 a3) λa3=>oB (Ei a4) λa4=>oB (cD .i64 a5) λa5=>oB (cD .i64 b) λb=>some (Nd.mk a0 a a2 a3 a4 a5 b)
 | _=>none
def Qed (l:List (AV El)):Option (El 8):=match l with
 | [a0,a,a2,a3]=>oB (cD .i64 a0) λa0=>oB (cD .i64 a) λa=>oB (cD .i64 a2) λa2=>oB (uZ 6 a3) λa3=>some (aW.mk a0 a a2 a3)
 | _=>none
def Qee (l:List (AV El)):Option (El 9):=match l with
 | [a0]=>oB (uZ 7 a0) λa0=>some a0
 | _=>none
def Q8 (l:List (AV El)):Option (El 10):=match l with
 | [a0]=>oB (GV a0) λa0=>some a0
 | _=>none
def Ku (l:List (AV El)):Option (El 11):=match l with
 | [a0,a,a2,a3,a4,a5,b,c,d,a9]=>oB (cD .i64 a0) λa0=>oB (cD .i64 a) λa=>oB (cD .i64 a2) λa2=>oB (cD .i64 a3) λa3=>oB (cD .i64 a4) λa4=>oB (cD .i64 a5) λa5=>oB (cD .i64 b) λb=>oB (cD .i64 c) λc=>oB (cD .i64 d) λd=>oB (cD .i64 a9) λa9=>some (cn.mk a0 a a2 a3 a4 a5 b c d a9)
 | _=>none
def Q9 (l:List (AV El)):Option (El 12):=match l with
 | [a0]=>oB (uZ 2 a0) λa0=>some a0
 | _=>none
def Q' (l:List (AV El)):Option (El 13):=match l with
 | [a0,a]=>oB (cD .i32 a0) λa0=>oB (cD .i64 a) λa=>some (Prod.mk a0 a)
 | _=>none
def Q_ (l:List (AV El)):Option (El 14):=match l with
 | [a0]=>oB (cD .i32 a0) λa0=>some a0
 | _=>none
def Ra (l:List (AV El)):Option (El 15):=match l with
 | [a0,a,a2,a3,a4,a5,b,c]=>oB (cD .i64 a0) λa0=>oB (uZ 6 a) λa=>oB (cD .i64 a2) λa2=>oB (cD .i64 a3) λa3=>oB (Ei a4) λa4=>oB (cD .i64 a5) λa5=>oB (cD .i64 b) λb=>oB (uZ 15 c) λc=>some (ah.mk a0 a a2 a3 a4 a5 b c)
 | _=>none
def Rb (l:List (AV El)):Option (El 16):=match l with
 | [a0,a]=>oB (GV a0) λa0=>oB (cD .i64 a) λa=>some (Row.mk a0 a)
 | _=>none
def Re (l:List (AV El)):Option (El 17):=match l with
 | [a0]=>oB (Ei a0) λa0=>some a0
 | _=>none
def Rf (l:List (AV El)):Option (El 18):=match l with
 | [a0,a]=>oB (cD .i64 a0) λa0=>oB (Ei a) λa=>some (Item.mk a0 a)
 | _=>none
def Rh (l:List (AV El)):Option (El 19):=match l with
 | [a0,a,a2]=>oB (GV a0) λa0=>oB (cD .i64 a) λa=>oB (Ei a2) λa2=>some (Q5.mk a0 a a2)
 | _=>none
def Ri (l:List (AV El)):Option (El 20):=match l with
 | [a0,a,a2]=>oB (uZ 0 a0) λa0=>oB (cD .i64 a) λa=>oB (uZ 2 a2) λa2=>some (Q6.mk a0 a a2)
 | _=>none
def Rj (l:List (AV El)):Option (El 21):=match l with
 | [a0]=>oB (uZ 0 a0) λa0=>some a0
 | _=>none
def QnG (c:Nat) (l:List (AV El)):Option (El c):=match c with
 | 0=>Qd8 l
 | 1=>xE l
 | 2=>GW l
 | 3=>Q7 l
 | 4=>Qd9 l
 | 5=>Qea l
 | 6=>Qeb l
 | 7=>Qec l
 | 8=>Qed l
 | 9=>Qee l
 | 10=>Q8 l
 | 11=>Ku l
 | 12=>Q9 l
 | 13=>Q' l
 | 14=>Q_ l
 | 15=>Ra l
 | 16=>Rb l
 | 17=>Re l
 | 18=>Rf l
 | 19=>Rh l
 | 20=>Ri l
 | 21=>Rj l
 | _=>none
def QnH (c:Nat):El c:=match c with
 | 0=>(0:UInt8)
 | 1=>aX.mk 0 0 0 0 0 0 0 0 0 0 0
 | 2=>dd.mk false 0 0 0 0 0 0 0 0 0 0 []
 | 3=>iX.mk [] []
 | 4=>Ks.mk 0 0 0 0 0 0 0 0 0 0 0 0 0
 | 5=>(0:Int)
 | 6=>Prod.mk 0 0
 | 7=>Nd.mk 0 [] 0 0 false 0 0
 | 8=>aW.mk 0 0 0 []
 | 9=>([]:List Nd)
 | 10=>([]:List UInt8)
 | 11=>cn.mk 0 0 0 0 0 0 0 0 0 0
 | 12=>([]:List dd)
 | 13=>Prod.mk 0 0
 | 14=>(0:Int)
 | 15=>ah.mk 0 [] 0 0 false 0 0 []
 | 16=>Row.mk [] 0
 | 17=>(false:Bool)
 | 18=>Item.mk 0 false
 | 19=>Q5.mk [] 0 false
 | 20=>Q6.mk [] 0 []
 | 21=>([]:List UInt8)
 | (_+22)=>()
def D:Data:=⟨El,szD,dj,QnG,QnH,0,λxs=>xs,λxs=>xs,0,λ_=>True,λ_ _ _ h=>h⟩
end
section
variable {M:Pm D} {v:AV D.E} {val:Value}
def aR {k:IntKind} {n:Int} (h:cD k v=some n) (c:VR M v val):VR M (.int k n:AV D.E) val/\fK k n:=by
 cases c<;>simp only[cD] at h<;>(try (cases h;done))
 case int d e a=>
  obtain⟨h1,b⟩:=lO.1 h;cases b;rw[fZ.1 h1];exact⟨.int a,a⟩
 case num d e a=>
  obtain⟨h1,b⟩:=lO.1 h;cases b;rw[fZ.1 h1];exact⟨.int a,a⟩
def qg {b:Bool} (h:Ei v=some b) (a:VR M v val):VR M (.bool b:AV D.E) val:=by
 cases a<;>simp only[Ei] at h<;>(try (cases h;done))
 ·cases h;exact .bool _
 ·cases h;exact .bool _
def sk {s:List UInt8} (h:GV v=some s) (a:VR M v val):VR M (.str s:AV D.E) val:=by
 cases a<;>simp only[GV] at h<;>(try (cases h;done));cases h;exact .str (by assumption)
theorem xF {c a:Nat} {xs:List (El a)} {d:List (El c)} (h:Kt c a xs=some d):∃e:a=c,e▸xs=d:=by
 unfold Kt at h;cases b:Nat.decEq a c with
 | isFalse g=>rw[b] at h;cases h
 | isTrue f=>rw[b] at h;subst f;exact⟨rfl,ZbN h⟩
def ju {c:Nat} {xs:List (El c)} (h:uZ c v=some xs) (a:VR M v val):VR M (.list c xs:AV D.E) val:=by
 cases v<;>simp only[uZ] at h<;>(try (cases h;done))
 ·cases h;cases a;exact .ed
 ·obtain⟨rfl,rfl⟩:=xF h;cases a with
  | grow h e hl hz hs d b ht=>exact .list hs d b
  | jZ h e=>exact .ed
 ·obtain⟨rfl,rfl⟩:=xF h;exact a
def mI {n:Int} (h:fK .u8 n):((b8 n).toNat:Int)=n:=by
 rw[cL] at h;simp only[De,s9] at h;unfold b8;rw[UInt8.toNat_ofNat'];omega
def iY (row a_:List (AV D.E)):Prop:=row.length=a_.length/\∀(j:Nat) (a b:AV D.E),row[j]?=some a->a_[j]?=some b->∀(M:Pm D) (v:Value),VR M a v->VR (D:=D) M b v
theorem iY.nil:iY [] []:=⟨rfl,λj a b h=>by simp at h⟩
def iY.cons {a c:AV D.E} {r e:List (AV D.E)} (h:∀(M:Pm D) (v:Value),VR M a v->VR (D:=D) M c v) (d:iY r e):iY (a::r) (c::e):=
 ⟨by simp[d.1],λj x f b e2=>by
  cases j with
  | zero=>simp at b e2;subst b;subst e2;exact h
  | succ j=>exact d.2 j x f (by simpa using b) (by simpa using e2)⟩
end
variable {Z:List (AV El)}
def Yp {x:El 0} (h:Qd8 Z=some x):iY Z (dj 0 x):=by
 unfold Qd8 at h;split at h
 ·rename_i a0
  obtain⟨d,a,h⟩:=aE.1 h;cases h;exact .cons (λM v c=>by
   obtain⟨h1,b⟩:=aR a c;show VR M (.int .u8 ((b8 d).toNat:Int)) v
   rw[mI b];exact h1) .nil
 ·cases h
def Yq {x:El 1} (h:xE Z=some x):iY Z (dj 1 x):=by
 unfold xE at h;split at h
 ·rename_i a0 n a2 a3 a4 a5 o p q a9 c
  obtain⟨r,d,h⟩:=aE.1 h;obtain⟨s,e,h⟩:=aE.1 h;obtain⟨t,e2,h⟩:=aE.1 h;obtain⟨u,f,h⟩:=aE.1 h;obtain⟨v,g,h⟩:=aE.1 h;obtain⟨w,i,h⟩:=aE.1 h;obtain⟨y,j,h⟩:=aE.1 h;obtain⟨z,k,h⟩:=aE.1 h;obtain⟨A,e8,h⟩:=aE.1 h;obtain⟨B,l,h⟩:=aE.1 h;obtain⟨m,b,h⟩:=aE.1 h;cases h;exact .cons (λ_ _ a=>(aR d a).1) (.cons (λ_ _ a=>(aR e a).1) (.cons (λ_ _ a=>(aR e2 a).1) (.cons (λ_ _ a=>(aR f a).1) (.cons (λ_ _ a=>(aR g a).1) (.cons (λ_ _ a=>(aR i a).1) (.cons (λ_ _ a=>(aR j a).1) (.cons (λ_ _ a=>(aR k a).1) (.cons (λ_ _ a=>(aR e8 a).1) (.cons (λ_ _ a=>(aR l a).1) (.cons (λ_ _ a=>(aR b a).1) .nil))))))))))
 ·cases h
def Yr {x:El 2} (h:GW Z=some x):iY Z (dj 2 x):=by
 unfold GW at h;split at h
 ·rename_i a0 q a2 a3 a4 a5 r s t a9 d e
  obtain⟨u,f,h⟩:=aE.1 h;obtain⟨v,g,h⟩:=aE.1 h;obtain⟨w,e2,h⟩:=aE.1 h;obtain⟨y,i,h⟩:=aE.1 h;obtain⟨z,j,h⟩:=aE.1 h;obtain⟨A,k,h⟩:=aE.1 h;obtain⟨B,l,h⟩:=aE.1 h;obtain⟨C,m,h⟩:=aE.1 h;obtain⟨D,e8,h⟩:=aE.1 h;obtain⟨E,n,h⟩:=aE.1 h;obtain⟨o,b,h⟩:=aE.1 h;obtain⟨p,c,h⟩:=aE.1 h;cases h;exact .cons (λ_ _ a=>qg f a) (.cons (λ_ _ a=>(aR g a).1) (.cons (λ_ _ a=>(aR e2 a).1) (.cons (λ_ _ a=>(aR i a).1) (.cons (λ_ _ a=>(aR j a).1) (.cons (λ_ _ a=>(aR k a).1) (.cons (λ_ _ a=>(aR l a).1) (.cons (λ_ _ a=>(aR m a).1) (.cons (λ_ _ a=>(aR e8 a).1) (.cons (λ_ _ a=>(aR n a).1) (.cons (λ_ _ a=>(aR b a).1) (.cons (λ_ _ a=>ju c a) .nil)))))))))))
 ·cases h
def Ys {x:El 3} (h:Q7 Z=some x):iY Z (dj 3 x):=by
 unfold Q7 at h;split at h
 ·rename_i a0 d
  obtain⟨e,b,h⟩:=aE.1 h;obtain⟨f,c,h⟩:=aE.1 h;cases h;exact .cons (λ_ _ a=>sk b a) (.cons (λ_ _ a=>sk c a) .nil)
 ·cases h
def Yt {x:El 4} (h:Qd9 Z=some x):iY Z (dj 4 x):=by
 unfold Qd9 at h;split at h
 ·rename_i a0 s a2 a3 a4 a5 t u v a9 e f a12
  obtain⟨w,g,h⟩:=aE.1 h;obtain⟨y,i,h⟩:=aE.1 h;obtain⟨z,e2,h⟩:=aE.1 h;obtain⟨A,j,h⟩:=aE.1 h;obtain⟨B,k,h⟩:=aE.1 h;obtain⟨C,l,h⟩:=aE.1 h;obtain⟨D,m,h⟩:=aE.1 h;obtain⟨E,n,h⟩:=aE.1 h;obtain⟨F,e8,h⟩:=aE.1 h;obtain⟨G,o,h⟩:=aE.1 h;obtain⟨p,b,h⟩:=aE.1 h;obtain⟨q,c,h⟩:=aE.1 h;obtain⟨r,d,h⟩:=aE.1 h;cases h;exact .cons (λ_ _ a=>(aR g a).1) (.cons (λ_ _ a=>(aR i a).1) (.cons (λ_ _ a=>(aR e2 a).1) (.cons (λ_ _ a=>(aR j a).1) (.cons (λ_ _ a=>(aR k a).1) (.cons (λ_ _ a=>(aR l a).1) (.cons (λ_ _ a=>(aR m a).1) (.cons (λ_ _ a=>(aR n a).1) (.cons (λ_ _ a=>(aR e8 a).1) (.cons (λ_ _ a=>(aR o a).1) (.cons (λ_ _ a=>(aR b a).1) (.cons (λ_ _ a=>(aR c a).1) (.cons (λ_ _ a=>(aR d a).1) .nil))))))))))))
 ·cases h
def Yu {x:El 5} (h:Qea Z=some x):iY Z (dj 5 x):=by
 unfold Qea at h;split at h
 ·rename_i a0
  obtain⟨c,a,h⟩:=aE.1 h;cases h;exact .cons (λ_ _ b=>(aR a b).1) .nil
 ·cases h
def Yv {x:El 6} (h:Qeb Z=some x):iY Z (dj 6 x):=by
 unfold Qeb at h;split at h
 ·rename_i a0 d
  obtain⟨e,b,h⟩:=aE.1 h;obtain⟨f,c,h⟩:=aE.1 h;cases h;exact .cons (λ_ _ a=>(aR b a).1) (.cons (λ_ _ a=>(aR c a).1) .nil)
 ·cases h
def Yw {x:El 7} (h:Qec Z=some x):iY Z (dj 7 x):=by
 unfold Qec at h;split at h
 ·rename_i a0 i a2 a3 a4 a5 j
  obtain⟨k,b,h⟩:=aE.1 h;obtain⟨l,c,h⟩:=aE.1 h;obtain⟨m,e2,h⟩:=aE.1 h;obtain⟨n,d,h⟩:=aE.1 h;obtain⟨o,e,h⟩:=aE.1 h;obtain⟨p,f,h⟩:=aE.1 h;obtain⟨q,g,h⟩:=aE.1 h;cases h;exact .cons (λ_ _ a=>(aR b a).1) (.cons (λ_ _ a=>ju c a) (.cons (λ_ _ a=>(aR e2 a).1) (.cons (λ_ _ a=>(aR d a).1) (.cons (λ_ _ a=>qg e a) (.cons (λ_ _ a=>(aR f a).1) (.cons (λ_ _ a=>(aR g a).1) .nil))))))
 ·cases h
def Yx {x:El 8} (h:Qed Z=some x):iY Z (dj 8 x):=by
 unfold Qed at h;split at h
 ·rename_i a0 e a2 a3
  obtain⟨f,b,h⟩:=aE.1 h;obtain⟨g,c,h⟩:=aE.1 h;obtain⟨i,e2,h⟩:=aE.1 h;obtain⟨j,d,h⟩:=aE.1 h;cases h;exact .cons (λ_ _ a=>(aR b a).1) (.cons (λ_ _ a=>(aR c a).1) (.cons (λ_ _ a=>(aR e2 a).1) (.cons (λ_ _ a=>ju d a) .nil)))
 ·cases h
def Yy {x:El 9} (h:Qee Z=some x):iY Z (dj 9 x):=by
 unfold Qee at h;split at h
 ·rename_i a0
  obtain⟨c,a,h⟩:=aE.1 h;cases h;exact .cons (λ_ _ b=>ju a b) .nil
 ·cases h
def Rk {x:El 10} (h:Q8 Z=some x):iY Z (dj 10 x):=by
 unfold Q8 at h;split at h
 ·rename_i a0
  obtain⟨c,a,h⟩:=aE.1 h;cases h;exact .cons (λ_ _ b=>sk a b) .nil
 ·cases h
def Rp {x:El 11} (h:Ku Z=some x):iY Z (dj 11 x):=by
 unfold Ku at h;split at h
 ·rename_i a0 k a2 a3 a4 a5 l m n a9
  obtain⟨o,b,h⟩:=aE.1 h;obtain⟨p,c,h⟩:=aE.1 h;obtain⟨q,e2,h⟩:=aE.1 h;obtain⟨r,d,h⟩:=aE.1 h;obtain⟨s,e,h⟩:=aE.1 h;obtain⟨t,f,h⟩:=aE.1 h;obtain⟨u,g,h⟩:=aE.1 h;obtain⟨v,i,h⟩:=aE.1 h;obtain⟨w,e8,h⟩:=aE.1 h;obtain⟨y,j,h⟩:=aE.1 h;cases h;exact .cons (λ_ _ a=>(aR b a).1) (.cons (λ_ _ a=>(aR c a).1) (.cons (λ_ _ a=>(aR e2 a).1) (.cons (λ_ _ a=>(aR d a).1) (.cons (λ_ _ a=>(aR e a).1) (.cons (λ_ _ a=>(aR f a).1) (.cons (λ_ _ a=>(aR g a).1) (.cons (λ_ _ a=>(aR i a).1) (.cons (λ_ _ a=>(aR e8 a).1) (.cons (λ_ _ a=>(aR j a).1) .nil)))))))))
 ·cases h
def Rq {x:El 12} (h:Q9 Z=some x):iY Z (dj 12 x):=by
 unfold Q9 at h;split at h
 ·rename_i a0
  obtain⟨c,a,h⟩:=aE.1 h;cases h;exact .cons (λ_ _ b=>ju a b) .nil
 ·cases h
def Rr {x:El 13} (h:Q' Z=some x):iY Z (dj 13 x):=by
 unfold Q' at h;split at h
 ·rename_i a0 d
  obtain⟨e,b,h⟩:=aE.1 h;obtain⟨f,c,h⟩:=aE.1 h;cases h;exact .cons (λ_ _ a=>(aR b a).1) (.cons (λ_ _ a=>(aR c a).1) .nil)
 ·cases h
def Rs {x:El 14} (h:Q_ Z=some x):iY Z (dj 14 x):=by
 unfold Q_ at h;split at h
 ·rename_i a0
  obtain⟨c,a,h⟩:=aE.1 h;cases h;exact .cons (λ_ _ b=>(aR a b).1) .nil
 ·cases h
def Rt {x:El 15} (h:Ra Z=some x):iY Z (dj 15 x):=by
 unfold Ra at h;split at h
 ·rename_i a0 j a2 a3 a4 a5 k l
  obtain⟨m,b,h⟩:=aE.1 h;obtain⟨n,c,h⟩:=aE.1 h;obtain⟨o,e2,h⟩:=aE.1 h;obtain⟨p,d,h⟩:=aE.1 h;obtain⟨q,e,h⟩:=aE.1 h;obtain⟨r,f,h⟩:=aE.1 h;obtain⟨s,g,h⟩:=aE.1 h;obtain⟨t,i,h⟩:=aE.1 h;cases h;exact .cons (λ_ _ a=>(aR b a).1) (.cons (λ_ _ a=>ju c a) (.cons (λ_ _ a=>(aR e2 a).1) (.cons (λ_ _ a=>(aR d a).1) (.cons (λ_ _ a=>qg e a) (.cons (λ_ _ a=>(aR f a).1) (.cons (λ_ _ a=>(aR g a).1) (.cons (λ_ _ a=>ju i a) .nil)))))))
 ·cases h
def Ru {x:El 16} (h:Rb Z=some x):iY Z (dj 16 x):=by
 unfold Rb at h;split at h
 ·rename_i a0 d
  obtain⟨e,b,h⟩:=aE.1 h;obtain⟨f,c,h⟩:=aE.1 h;cases h;exact .cons (λ_ _ a=>sk b a) (.cons (λ_ _ a=>(aR c a).1) .nil)
 ·cases h
def Rv {x:El 17} (h:Re Z=some x):iY Z (dj 17 x):=by
 unfold Re at h;split at h
 ·rename_i a0
  obtain⟨c,a,h⟩:=aE.1 h;cases h;exact .cons (λ_ _ b=>qg a b) .nil
 ·cases h
def Rw {x:El 18} (h:Rf Z=some x):iY Z (dj 18 x):=by
 unfold Rf at h;split at h
 ·rename_i a0 d
  obtain⟨e,b,h⟩:=aE.1 h;obtain⟨f,c,h⟩:=aE.1 h;cases h;exact .cons (λ_ _ a=>(aR b a).1) (.cons (λ_ _ a=>qg c a) .nil)
 ·cases h
def Rx {x:El 19} (h:Rh Z=some x):iY Z (dj 19 x):=by
 unfold Rh at h;split at h
 ·rename_i a0 d a2
  obtain⟨e,b,h⟩:=aE.1 h;obtain⟨f,c,h⟩:=aE.1 h;obtain⟨g,e2,h⟩:=aE.1 h;cases h;exact .cons (λ_ _ a=>sk b a) (.cons (λ_ _ a=>(aR c a).1) (.cons (λ_ _ a=>qg e2 a) .nil))
 ·cases h
def Ry {x:El 20} (h:Ri Z=some x):iY Z (dj 20 x):=by
 unfold Ri at h;split at h
 ·rename_i a0 d a2
  obtain⟨e,b,h⟩:=aE.1 h;obtain⟨f,c,h⟩:=aE.1 h;obtain⟨g,e2,h⟩:=aE.1 h;cases h;exact .cons (λ_ _ a=>ju b a) (.cons (λ_ _ a=>(aR c a).1) (.cons (λ_ _ a=>ju e2 a) .nil))
 ·cases h
def Rz {x:El 21} (h:Rj Z=some x):iY Z (dj 21 x):=by
 unfold Rj at h;split at h
 ·rename_i a0
  obtain⟨c,a,h⟩:=aE.1 h;cases h;exact .cons (λ_ _ b=>ju a b) .nil
 ·cases h
def kN {l:List (AV D.E)} (h:jy (λv=>one v&&mq (D:=D) v) l):∀v∈l,one v/\mq v:=λv a=>by
 have:=ec.1 h v a;simpa using this
theorem fL:aY D where
 len:=λc x=>by
  show(dj c x).length=szD c
  match c,x with
  | 0,x=>rfl
  | 1,x=>rfl
  | 2,x=>rfl
  | 3,x=>rfl
  | 4,x=>rfl
  | 5,x=>rfl
  | 6,x=>rfl
  | 7,x=>rfl
  | 8,x=>rfl
  | 9,x=>rfl
  | 10,x=>rfl
  | 11,x=>rfl
  | 12,x=>rfl
  | 13,x=>rfl
  | 14,x=>rfl
  | 15,x=>rfl
  | 16,x=>rfl
  | 17,x=>rfl
  | 18,x=>rfl
  | 19,x=>rfl
  | 20,x=>rfl
  | 21,x=>rfl
  | _+22,x=>rfl
 one:=λc x=>by
  show ∀v∈dj c x,one v/\mq (D:=D) v
  match c,x with
  | 0,x=>intro v a;exact kN (l:=dj 0 x) (by rfl) v a
  | 1,x=>intro v a;exact kN (l:=dj 1 x) (by rfl) v a
  | 2,x=>intro v a;exact kN (l:=dj 2 x) (by rfl) v a
  | 3,x=>intro v a;exact kN (l:=dj 3 x) (by rfl) v a
  | 4,x=>intro v a;exact kN (l:=dj 4 x) (by rfl) v a
  | 5,x=>intro v a;exact kN (l:=dj 5 x) (by rfl) v a
  | 6,x=>intro v a;exact kN (l:=dj 6 x) (by rfl) v a
  | 7,x=>intro v a;exact kN (l:=dj 7 x) (by rfl) v a
  | 8,x=>intro v a;exact kN (l:=dj 8 x) (by rfl) v a
  | 9,x=>intro v a;exact kN (l:=dj 9 x) (by rfl) v a
  | 10,x=>intro v a;exact kN (l:=dj 10 x) (by rfl) v a
  | 11,x=>intro v a;exact kN (l:=dj 11 x) (by rfl) v a
  | 12,x=>intro v a;exact kN (l:=dj 12 x) (by rfl) v a
  | 13,x=>intro v a;exact kN (l:=dj 13 x) (by rfl) v a
  | 14,x=>intro v a;exact kN (l:=dj 14 x) (by rfl) v a
  | 15,x=>intro v a;exact kN (l:=dj 15 x) (by rfl) v a
  | 16,x=>intro v a;exact kN (l:=dj 16 x) (by rfl) v a
  | 17,x=>intro v a;exact kN (l:=dj 17 x) (by rfl) v a
  | 18,x=>intro v a;exact kN (l:=dj 18 x) (by rfl) v a
  | 19,x=>intro v a;exact kN (l:=dj 19 x) (by rfl) v a
  | 20,x=>intro v a;exact kN (l:=dj 20 x) (by rfl) v a
  | 21,x=>intro v a;exact kN (l:=dj 21 x) (by rfl) v a
  | _+22,x=>intro v a;exact kN (l:=[.int .i64 0]) (by rfl) v a
 dec:=λc row x h=>by
  have key:iY row (dj c x):=by
   match c,x,h with
   | 0,x,h=>exact Yp h
   | 1,x,h=>exact Yq h
   | 2,x,h=>exact Yr h
   | 3,x,h=>exact Ys h
   | 4,x,h=>exact Yt h
   | 5,x,h=>exact Yu h
   | 6,x,h=>exact Yv h
   | 7,x,h=>exact Yw h
   | 8,x,h=>exact Yx h
   | 9,x,h=>exact Yy h
   | 10,x,h=>exact Rk h
   | 11,x,h=>exact Rp h
   | 12,x,h=>exact Rq h
   | 13,x,h=>exact Rr h
   | 14,x,h=>exact Rs h
   | 15,x,h=>exact Rt h
   | 16,x,h=>exact Ru h
   | 17,x,h=>exact Rv h
   | 18,x,h=>exact Rw h
   | 19,x,h=>exact Rx h
   | 20,x,h=>exact Ry h
   | 21,x,h=>exact Rz h
   | _+22,x,h=>cases(show none=some x from h)
  have hl:(dj c x).length=szD c:=by
   match c,x with
   | 0,x=>rfl
   | 1,x=>rfl
   | 2,x=>rfl
   | 3,x=>rfl
   | 4,x=>rfl
   | 5,x=>rfl
   | 6,x=>rfl
   | 7,x=>rfl
   | 8,x=>rfl
   | 9,x=>rfl
   | 10,x=>rfl
   | 11,x=>rfl
   | 12,x=>rfl
   | 13,x=>rfl
   | 14,x=>rfl
   | 15,x=>rfl
   | 16,x=>rfl
   | 17,x=>rfl
   | 18,x=>rfl
   | 19,x=>rfl
   | 20,x=>rfl
   | 21,x=>rfl
   | _+22,x=>rfl
  exact⟨key.1.trans hl,key.2⟩
 b1:=rfl
 bl:=λ_=>rfl
 be:=λ_ _ _=>rfl
 bo:=λ_=>rfl
end sx
namespace sx
open Go Go.RowKit
noncomputable section
def cdD (t:TypeId):Option Nat:=match t with
 | 5=>some 0
 | 179=>some 1
 | 106=>some 2
 | 77=>some 3
 | 110=>some 4
 | 3=>some 5
 | 350=>some 6
 | 206=>some 7
 | 203=>some 8
 | 138=>some 9
 | 9=>some 10
 | 28=>some 12
 | 192=>some 13
 | 21=>some 14
 | 209=>some 15
 | 221=>some 15
 | 275=>some 16
 | 4=>some 17
 | 379=>some 18
 | 33=>some 20
 | 29=>some 21
 | _=>none
def QnI (l:List Func):Bool:=jy (λfn=>Bool.not (fn.name== "runtime.NumGoroutine" &&fn.body.isSome)) l
theorem Nh {P:Program} (h:QnI P.funcs.toList):rZ P:=λf fn a=>by
 have:=ec.1 h fn (ZaJ (i:=f) (by rw[ZaL];exact a));grind
def sm:rZ prog:=Nh (by kernel_rfl)
def mixed:Tryz.prog.follows .mixedOrders:=by kernel_rfl
def xG (f:Func):Code:=match f.body with
 | some c=>c
 | none=>.skip
abbrev s7:=List (bh D)
def lI (tab:s7) (fn:Func) (k:bh D) (a:k.Y->cH D) (y:k.Y):Prop:=J3 prog D cdD (X2 D tab) (a y) fn.ntmps k (xG fn) fn.results.toList y
abbrev Ok (k:bh D):Prop:=DW prog D k
variable {k:bh D} {Z:Func} {Y:s7}
variable {a:k.Y->cH D} {V:k.Y->Prop}
def nM {fn:Func} {tab:s7} (ht:∀k∈tab,Ok k) (a:Tryz.prog.funcs[k.f]?=some fn) (d:fn.body=some (xG fn)) (fI:k.Y->cH D) (b:∀y,(k.args y).length<=fn.ntmps) (c:∀y,k.pre y->lI tab fn k fI y):Ok k:=
 Qg1 fL mixed sm a d (xe fL ht) fI b c
def vc (tab:s7) (fn:Func) (k:bh D) (a:k.Y->cH D) (y:k.Y):Prop:=bif Nat.ble (kb (k.args y)) fn.ntmps then lI tab fn k a y else False
@[reducible] def RA:s7->Prop
 | []=>True
 | [k]=>Ok k
 | k::l=>Ok k/\RA l
theorem RA.all:∀{l:s7},RA l->∀k∈l,Ok k
 | [],_,k,hk=>nomatch hk
 | [a],h,k,hk=>by cases hk with
  | head=>exact h
  | tail _ hk=>cases hk
 | a::b::l,h,k,hk=>by cases hk with
  | head=>exact h.1
  | tail _ hk=>exact RA.all h.2 k hk
theorem uB {α:Type} (l:List α):kb l=l.length:=by
 induction l with
 | nil=>rfl
 | cons a l b=>show Nat.succ (kb l)=_;rw[b];rfl
theorem okB {y:k.Y} (h:vc Y Z k a y):(k.args y).length<=Z.ntmps/\lI Y Z k a y:=by
 unfold vc at h;rw[uB] at h;simp_all
theorem cN (h:Z.body.isSome):Z.body=some (xG Z):=by
 grind [xG]
def cC (j:∀y,V y=vc Y Z k a y) (ht:RA Y) (h:∀y,k.pre y->V y)
  (b:Tryz.prog.funcs[k.f]?=some Z:=by kernel_rfl) (c:Z.body.isSome:=by kernel_rfl):Ok k:=by
 refine⟨⟨Z,_,b,cN c⟩,λy l=>?_⟩;obtain⟨h1,d⟩:=okB (Eq.mp (j y) (h y l));exact λM A w hl g i R e=>ke fL mixed sm b (cN c) (xe fL ht.all) h1 d M A w hl g i R e
def okZ (tab:s7) (fn:Func) (b:k.Y->cH D) (ht:RA tab) (h:∀y,k.pre y->V y) (c:∀y,V y=vc tab fn k b y:=by intro y;kernel_rfl)
  (a:Tryz.prog.funcs[k.f]?=some fn:=by kernel_rfl) (d:fn.body.isSome:=by kernel_rfl):Ok k:=cC c ht h a d
theorem xH {g:Type} (l:List g) (k:g->bh D) (me:∀i,(k i).Y->Nat) {fn:g->Func} {tab:g->s7} {fI:∀i,(k i).Y->cH D} (ht:∀i,RA (tab i)) (a:∀i,Tryz.prog.funcs[(k i).f]?=some (fn i)) (c:∀i,(fn i).body.isSome)
  (r:∀i y,(k i).pre y->vc (l.map (λj=>(k j).under (me j) (me i y))++tab i) (fn i) (k i) (fI i) y):∀i,Ok (k i):=by
 have key:∀n i,Ok ((k i).under (me i) n):=λn=>by
  induction n with
  | zero=>exact λi=>⟨⟨fn i,_,a i,cN (c i)⟩,λy b=>absurd b.2 (Zbo _)⟩
  | succ n s=>
   refine λi=>⟨⟨fn i,_,a i,cN (c i)⟩,λy b M A w hl o p R m=>?_⟩
   have u:∀j,Ok ((k j).under (me j) (me i y)):=λj=>⟨⟨fn j,_,a j,cN (c j)⟩,λt d=>(s j).2 t ⟨d.1,by have:=b.2;have:=d.2;omega⟩⟩
   obtain⟨h1,h⟩:=okB (r i y b.1);exact ke (k:=k i) fL mixed sm (a i) (cN (c i)) (xe fL λq e=>by
    rcases Zax.1 e with e | e
    ·grind
    ·exact(ht i).all q e) h1 h M A w hl o p R m
 exact λi=>⟨⟨fn i,_,a i,cN (c i)⟩,λy b=>(key (me i y+1) i).2 y ⟨b,Zbr _⟩⟩
def RC (me:k.Y->Nat) {fn:Func} {tab:s7} {fI:k.Y->cH D} (b:∀y,V y=vc (k.under me (me y)::tab) fn k fI y) (ht:RA tab) (h:∀y,k.pre y->V y)
  (a:Tryz.prog.funcs[k.f]?=some fn:=by kernel_rfl) (c:fn.body.isSome:=by kernel_rfl):Ok k:=
 xH [()] (λ_=>k) (λ_=>me) (fn:=λ_=>fn) (tab:=λ_=>tab) (fI:=λ_=>fI) (λ_=>ht) (λ_=>a) (λ_=>c) (λ_ y d=>Eq.mp (b y) (h y d)) ()
abbrev By:=List UInt8
abbrev Qvo (n:Int):AV D.E:=.int .i64 n
def aa {α:Type} (l:List α) (p:Prop):Prop:=List.rec (motive:=λ_=>Prop) p (λa _ b=>a=a/\b) l
@[simp] theorem dw {α:Type} (l:List α) (p:Prop):aa l p=p:=by
 induction l with
 | nil=>rfl
 | cons a l b=>
  grind [aa]
def Tt (n:Nat) (p:Prop):Prop:=Nat.rec (motive:=λ_=>Prop) p (λ_ a=>true/\a) n
@[simp] theorem QbO (n:Nat) (p:Prop):Tt n p=p:=by
 induction n with
 | zero=>rfl
 | succ n a=>
  show(true/\Tt n p)=p
  rw[a];simp
def aj (b:Bool) (p q:Prop):Prop:=(b->p)/\(b=false->q)
@[simp] theorem pd (b:Bool) (p q:Prop):aj b p q=((b->p)/\(b=false->q)):=rfl
def dT0:aX:=⟨0,0,0,0,0,0,0,0,0,0,0⟩
def fu:dd:=⟨false,0,0,0,0,0,0,0,0,0,0,[]⟩
def gN {α:Type} (d:α) (l:List α) (x:Nat):α:=gt d l (Int.toNat (x:Int))
@[simp] theorem Qg8 {α:Type} (d:α) (l:List α) (x:Nat):gN d l x=gt d l x:=rfl
def dY {α:Type} (_:α):cH D:=⟨[],[],[],[],1,[]⟩
def Qef (args:List (AV D.E)) (s:St D.E):C (By×Int):=match args with
 | [a,b]=>az (aL D s 0 a) λl=>aP (cT b) λ_ r=>.ret ((l:By),r)
 | _=>.fail
end
end sx
namespace sx
open Go Go.RowKit Go.ChangeShapes Go.WideShapes Go.ChangeAt
inductive Lf where
 | int (k:IntKind)
 | bool
 | str
 | sl (e:TypeId)
def Kv (l:List Lf):Nat->List Lf
 | 0=>[]
 | n+1=>l++Kv l n
def Ni (P:Program) (g:TypeId->Option (List Lf)):List Field->Nat->Option (List Lf)
 | [],_=>some []
 | f::fs,o=>match g f.type with
  | some l=>if f.offset=o/\l.length=P.cellsOf f.type then(Ni P g fs (o+l.length)).map λr=>l++r else none
  | none=>none
def lvs (P:Program):Nat->TypeId->Option (List Lf)
 | 0,_=>none
 | n+1,t=>match P.underlying t with
  | some (.int k)=>some [.int k]
  | some .bool=>some [.bool]
  | some .string=>some [.str]
  | some (.slice e)=>some [.sl e]
  | some (.array m e)=>match lvs P n e with
   | some l=>if l.length=P.cellsOf e/\P.cellsOf t=m*l.length then some (Kv l m) else none
   | none=>none
  | some (.struct a)=>match Ni P (lvs P n) a.toList 0 with
   | some l=>if l.length=P.cellsOf t then some l else none
   | none=>none
  | _=>none
theorem uC {H:Type} (l:List (DataW H)):Rows.uptoBulkAll l=(l.map Rows.uptoBulk).sum:=by
 induction l with
 | nil=>simp[Rows.uptoBulkAll]
 | cons x r a=>simp only[Rows.uptoBulkAll,Zbl,Zco,a]
section
variable {H:Type} {a_:TypeId×Value->H} {P:Program} {W:World} {held:Bool}
abbrev Pf (a_:TypeId×Value->H) (P:Program) (W:World) (held:Bool):=DataW.trod a_ P W 0 (λ_=>true) held
def Nj (a_:TypeId×Value->H) (P:Program) (W:World) (held:Bool) (l:Lf) (v:Value) (w:Nat):Prop:=match l with
 | .int k=>∃n,v=.int k n/\(Lit.int k n).wf/\1<=w
 | .bool=>∃b,v=.bool b
 | .str=>∃s:ByteArray,v=.string s/\s.size<=maxLen/\s.data.toList.length<=w
 | .sl e=>v=.slice none 0 0\/∃a len cap n,v=.slice (some a) len cap/\len<=cap/\cap<=maxLen/\∃D:Nat->DataW H,((List.range len).map λi=>Rows.uptoBulk (D i)).sum<=w/\
   ∀i,i<len->∃cs p,W.cells? 0 (a.add (i*P.cellsOf e)) (P.cellsOf e)=some cs/\Pf a_ P W held n e cs=some (D i,p)
inductive fl (a_:TypeId×Value->H) (P:Program) (W:World) (held:Bool):List Lf->List Value->Nat->Prop
 | nil (T:Nat):fl a_ P W held [] [] T
 | cons {l:Lf} {ls:List Lf} {v:Value} {r:List Value} {w T T':Nat} (h:Nj a_ P W held l v w) (k:fl a_ P W held ls r T) (e:w+T<=T'):fl a_ P W held (l::ls) (v::r) T'
variable {c:List Value} {w:Nat} {a:List Lf}
theorem fl.mono {T:Nat} (h:fl a_ P W held a c w) (b:w<=T):fl a_ P W held a c T:=by
 cases h with
 | nil=>exact .nil T
 | cons h k e=>exact .cons h k ω
theorem fl.app {b:List Lf} {d:List Value} {T:Nat} (h:fl a_ P W held a c w) (k:fl a_ P W held b d T):fl a_ P W held (a++b) (c++d) (w+T):=by
 induction h with
 | nil w=>exact k.mono ω
 | cons h _ e f=>exact .cons h f ω
theorem fl.len (h:fl a_ P W held a c w):a.length=c.length:=by
 induction h with
 | nil=>rfl
 | cons _ _ _ b=>simp[b]
theorem fl.aM {l:Lf} (h:fl a_ P W held (l::a) c w):∃v r S T,c=v::r/\Nj a_ P W held l v S/\fl a_ P W held a r T/\S+T<=w:=by
 cases h with
 | cons h k e=>exact⟨_,_,_,_,rfl,h,k,e⟩
def fl.jA (h:fl a_ P W held [] c w):c=[]:=by cases h;rfl
def fl.one {l:Lf} {v:Value} (h:Nj a_ P W held l v w):fl a_ P W held [l] [v] w:=.cons h (.nil 0) ω
theorem Kw {g:TypeId->Option (List Lf)} {cs:List Value} (c:∀t l b m x,g t=some l->Pf a_ P W held m t b=some x->fl a_ P W held l b (Rows.uptoBulk x.1)):
  ∀(a:List Field) (xs:List (DataW H×List MemPlace)) (o:Nat) (l:List Lf),Ni P g a o=some l->xs.length=a.length->
   (∀(i:Nat) f x,a[i]?=some f->xs[i]?=some x->∃m,Pf a_ P W held m f.type ((cs.drop f.offset).take (P.cellsOf f.type))=some x)->
   fl a_ P W held l ((cs.drop o).take l.length) (xs.map λx=>Rows.uptoBulk x.1).sum
 | [],xs,o,l,h,_,_=>by cases h;simpa using fl.nil _
 | f::a,[],o,l,h,hl,_=>by simp at hl
 | f::a,x::xs,o,l,h,hlx,hx=>by
  unfold Ni at h;cases e:g f.type with
  | none=>rw[e] at h;cases h
  | some n=>
   rw[e] at h;simp only at h;split at h
   ·rename_i j
    obtain⟨k,hl⟩:=j;cases e2:Ni P g a (o+n.length) with
    | none=>rw[e2] at h;cases h
    | some s=>
     rw[e2] at h;cases h;obtain⟨m,h1⟩:=hx 0 f x rfl rfl;rw[k,<-hl] at h1;have k1:=c _ _ _ _ _ e h1;have k2:=Kw c a xs _ _ e2 (by simpa using hlx) λi d r q p=>hx (i+1) d r (by simpa using q) (by simpa using p)
     rw[Zab,ZdW,ZbZ,Zbl,Zco];exact k1.app k2
   ·cases h
theorem Ej {l:List Lf} {cs:List Value}:∀(xs:List (DataW H×List MemPlace)) (o:Nat),(∀i x,xs[i]?=some x->fl a_ P W held l ((cs.drop (o+i*l.length)).take l.length) (Rows.uptoBulk x.1))->
  fl a_ P W held (Kv l xs.length) ((cs.drop o).take (xs.length*l.length)) (xs.map λx=>Rows.uptoBulk x.1).sum
 | [],o,_=>by simpa [Kv] using fl.nil _
 | x::xs,o,h=>by
  have h0:=h 0 x rfl;rw[ZbS,Zbn] at h0;have h1:=Ej xs (o+l.length) λi a hi=>by
   have:=h (i+1) a (by simpa using hi);rw[show o+(i+1)*l.length=o+l.length+i*l.length by rw[ZbL];omega] at this;exact this
  rw[Zae,ZbL,Nat.one_mul,Zc1 (xs.length*l.length),ZdW,ZbZ,Zbl,Zco];exact h0.app h1
def xI {xs:List (DataW H×List MemPlace)}:(xs.map λx=>Rows.uptoBulk x.1).sum<=Rows.uptoBulk (DataW.agg (xs.map (·.1))):=by
 simp only[Rows.uptoBulk,uC,Zdq];exact ZcR _
theorem pe:∀(n:Nat) (t:TypeId) (u:List Lf) (cs:List Value) (m:Nat) (x:DataW H×List MemPlace),lvs P n t=some u->Pf a_ P W held m t cs=some x->fl a_ P W held u cs (Rows.uptoBulk x.1)
 | 0,t,u,cs,m,x,h,_=>by cases h
 | n+1,t,u,cs,m,x,h,c=>by
  unfold lvs at h;cases hu:P.underlying t with
  | none=>rw[hu] at h;cases h
  | some d=>
   rw[hu] at h;cases d<;>simp only at h<;>(try (cases h;done))
   case bool=>
    cases h;obtain⟨b,rfl,_⟩:=DataW.trod_bool hu c;have:fl a_ P W held [.bool] [.bool b] 0:=.one ⟨b,rfl⟩;exact this.mono (Zaj _)
   case int k=>
    cases h;obtain⟨v,rfl,rfl,hw⟩:=DataW.trod_int hu c;exact .one ⟨v,rfl,hw,by simp[Rows.uptoBulk]⟩
   case string=>
    cases h;obtain⟨s,rfl,rfl,hs⟩:=DataW.trod_string hu c;refine .one ⟨s,rfl,hs,?_⟩;simp only[Rows.uptoBulk];exact ZcR _
   case slice e=>
    cases h;rcases Go.Deep.open_slice hu c with⟨rfl,_⟩ | ⟨a,len,cap,q,G,D,I,rfl,_,hl,F,r,rfl,C⟩
    ·exact .one (.inl rfl)
    ·simp only[Zbv] at r;subst r;refine .one (.inr ⟨a,len,q,G,rfl,hl,F,D,?_,λi hi=>?_⟩)
     ·simp only[Rows.uptoBulk,uC,Zdq];show((List.range len).map (Rows.uptoBulk∘D)).sum<=_
      omega
     ·obtain⟨j,h1,o⟩:=C i ω;exact⟨j,_,h1,o⟩
   case array q e=>
    cases hl:lvs P n e with
    | none=>rw[hl] at h;cases h
    | some l=>
     rw[hl] at h;simp only at h;split at h
     ·rename_i A
      cases h;obtain⟨xs,B,_,rfl,h1,o,w⟩:=DataW.trod_array hu c;subst o;have:=Ej (a_:=a_) (P:=P) (W:=W) (held:=held) (l:=l) (cs:=cs) xs 0 λi x hi=>by
       have y:i<xs.length:=(Zam.1 hi).1;have p:=w i y;rw[hi] at p;rw[Za6,A.1];exact pe n e l _ _ _ hl p
      rw[ZbQ,ZaA ω] at this;exact this.mono xI
     ·cases h
   case struct z=>
    cases hl:Ni P (lvs P n) z.toList 0 with
    | none=>rw[hl] at h;cases h
    | some l=>
     rw[hl] at h;simp only at h;split at h
     ·rename_i A
      cases h;obtain⟨xs,B,_,rfl,h1,o,w⟩:=DataW.trod_struct hu c;have:=Kw (a_:=a_) (P:=P) (W:=W) (held:=held) (g:=lvs P n) (cs:=cs) (λt l j m x=>pe n t l j m x) z.toList xs 0 u hl (by simpa using o) λi f x E c=>by
       have p:=w i f (by simpa using E);rw[c] at p;exact⟨B,p⟩
      rw[ZbQ,ZaA ω] at this;exact this.mono xI
     ·cases h
end
variable {v:Value} {c:Nat} {W:World} {u:AV D.E}
variable {Z:List (D.E c)}
def kO (v:Value):Option (AV D.E):=match v with
 | .int k n=>bif fK k n then some (.int k n) else none
 | .bool b=>some (.bool b)
 | .string s=>if s.data.toList.length<=9223372036854775807 then some (.str s.data.toList) else none
 | _=>none
noncomputable def lV (W:World):Pm D:=⟨λ_=>none,λb o=>(W.cell? ⟨b,o,none⟩).bind kO⟩
noncomputable def qh (c:Nat) (W:World) (v:Value):Option (AV D.E):=@dite _ (∃xs:List (D.E c),VR (lV W) (.list c xs) v) (Classical.propDecidable _) (λh=>some (.list c h.choose)) (λ_=>none)
def Ck (h:qh c W v=some u):∃xs:List (D.E c),u=.list c xs/\VR (lV W) (.list c xs) v:=by
 unfold qh at h;split at h
 ·rename_i a;cases h;exact⟨_,rfl,a.choose_spec⟩
 ·cases h
def GX (h:VR (lV W) (.list c Z) v):∃b:List (D.E c),qh c W v=some (.list c b)/\VR (lV W) (.list c b) v:=by
 have a:∃Z:List (D.E c),VR (lV W) (.list c Z) v:=⟨Z,h⟩;refine⟨a.choose,?_,a.choose_spec⟩;unfold qh;rw[dif_pos a]
noncomputable def qM (c:Nat) (W:World) (v:Value):Option (AV D.E):=match kO v with
 | some u=>some u
 | none=>qh c W v
noncomputable def mJ (c:Nat) (W:World):Pm D:=⟨λ_=>none,λb o=>(W.cell? ⟨b,o,none⟩).bind (qM c W)⟩
def RE {M:Pm D} (h:kO v=some u):mq u/\VR M u v:=by
 cases v<;>simp only[kO] at h<;>(try (cases h;done))
 case bool b=>cases h;exact⟨rfl,.bool b⟩
 case int k n=>
  cases a:fK k n with
  | false=>rw[a] at h;cases h
  | true=>rw[a] at h;cases h;exact⟨rfl,.int a⟩
 case string s=>
  split at h
  ·rename_i hs;cases h;exact⟨rfl,.str hs⟩
  ·cases h
theorem Cl (c:Nat) (W:World):Le (lV W) (mJ c W):=⟨λb a h=>(nomatch h),λb o v h=>by
 have h:(W.cell? ⟨b,o,none⟩).bind kO=some v:=h;show(W.cell? ⟨b,o,none⟩).bind (qM c W)=some v
 cases e:W.cell? ⟨b,o,none⟩ with
 | none=>rw[e] at h;cases h
 | some u=>
  rw[e] at h;have h:kO u=some v:=h;show qM c W u=some v
  unfold qM;rw[h]⟩
theorem Nk (c:Nat) (W:World) (f:D.ng<=W.heap.size) (d:D.gw W):ee (mJ c W) (λ_=>none) W:=by
 refine⟨λb o h=>(nomatch h),λb j o k a i h=>(nomatch h),λb o v h=>?_,λb o a h=>(nomatch h),λb c xs e a h=>(nomatch h),⟨⟨f,d⟩,λb o a h=>(nomatch h)⟩⟩;have h:(W.cell? ⟨b,o,none⟩).bind (qM c W)=some v:=h;cases e:W.cell? ⟨b,o,none⟩ with
 | none=>rw[e] at h;cases h
 | some u=>
  rw[e] at h;have h:qM c W u=some v:=h;unfold qM at h;cases e2:kO u with
  | some l=>
   rw[e2] at h;cases h;have:=RE (M:=mJ c W) e2;exact⟨this.1,u,rfl,this.2⟩
  | none=>
   rw[e2] at h;obtain⟨xs,rfl,g⟩:=Ck h;exact⟨rfl,u,rfl,g.mono (Cl c W)⟩
theorem row_one {M:Pm D} {a:List (D.E c)} (e:∀x y:D.E c,D.a_ c x=D.a_ c y->x=y) (h:VR M (.list c Z) v) (k:VR M (.list c a) v):Z=a:=by
 have key:∀{b o:Nat},cz M b o c Z->cz M b o c a->Z.length=a.length->Z=a:=λ{b o} hs f hl=>by
  refine Zdx hl λi h1 l=>e _ _ (Zb6 λj=>?_)
  by_cases s:j<D.size c
  ·have p:(D.a_ c Z[i]).length=D.size c:=fL.len c _;have q:(D.a_ c a[i]).length=D.size c:=fL.len c _;rw[Zaf ω,Zaf ω];have g:=hs i h1 j _ (Zaf ω);have a2:=f i l j _ (Zaf ω);rw[g] at a2;exact a2
  ·have p:(D.a_ c Z[i]).length=D.size c:=fL.len c _;have q:(D.a_ c a[i]).length=D.size c:=fL.len c _;rw[Zbd ω,Zbd ω]
 generalize d:v=u at k;cases h with
 | list hs t r=>
  cases k with
  | list f n m=>
   simp only[Value.slice.injEq,ZcQ,Addr.mk.injEq] at d;obtain⟨⟨rfl,rfl,_⟩,hl,_⟩:=d;exact key hs f hl
  | ed=>
   simp only[Value.slice.injEq] at d;exact Zap d.2.1
 | ed=>
  cases k with
  | list f n m=>
   simp only[Value.slice.injEq] at d;exact(Zap d.2.1.symm).symm
  | ed=>rfl
def Ek {b o:Nat} (a:∀x y:D.E c,D.a_ c x=D.a_ c y->x=y) (h:VR (lV W) (.list c Z) v) (f:W.cell? ⟨b,o,none⟩=some v):(mJ c W).sg b o=some (.list c Z):=by
 show(W.cell? ⟨b,o,none⟩).bind (qM c W)=_
 rw[f];show qM c W v=_
 have e:kO v=none:=by cases h<;>rfl
 unfold qM;rw[e];obtain⟨g,h1,d⟩:=GX h;show qh c W v=_
 rw[h1,row_one a d h]
end sx
namespace sx
open Go Go.RowKit
variable {a b:Int} {u:Nat}
def fm {a b:Int}:aG a b↔a<=b:=by simp[aG]
def RF {a b:Int}:aG a b=false↔b<a:=by simp[aG]
def dA {a b:Int}:aw a b↔a<b:=by simp[aw]
def hU {a b:Int}:aw a b=false↔b<=a:=by simp[aw]
def oo {a b:Int}:aB a b↔a=b:=by simp[aB]
def oq {a b:Int}:aB a b=false↔a≠b:=by simp[aB]
def xJ {a b:By}:seq a b↔a=b:=by simp[seq]
def br:bJ a u↔a*u<=140737488355328:=by simp[bJ]
theorem sq:fK .i64 a↔-9223372036854775808<=a/\a<=9223372036854775807:=by rw[cL];simp only[De,s9]
def RG:fK .u64 a↔0<=a/\a<=18446744073709551615:=by rw[cL];simp only[De,s9]
theorem ba (h1: -9223372036854775808<=a+b) (c:a+b<=9223372036854775807):ay .i64 a b=a+b:=dG (sq.2 ⟨h1,c⟩)
theorem jQ (h1: -9223372036854775808<=a-b) (c:a-b<=9223372036854775807):cx .i64 a b=a-b:=dG (sq.2 ⟨h1,c⟩)
theorem Nl (h1:0<=a) (b:a<=18446744073709551615):jP .u64 a=a:=dG (RG.2 ⟨h1,b⟩)
def RH (h1:0<=a*b) (c:a*b<=18446744073709551615):gG .u64 a b=a*b:=dG (RG.2 ⟨h1,c⟩)
theorem au {α:Type} (l:List α):ag l=(l.length:Int):=rfl
theorem aT {α:Type} (a b:List α):bM a b=a++b:=rfl
def Qg9 (n:Int):imax n 0=(n.toNat:Int):=by unfold imax;split<;>omega
def RI {j:Nat} (a:u<18446744073709551616) (b:j<=8):oC .u64 (u:Int) (gG .u64 8 (jP .u64 (j:Int)))=((u / 256 ^ j:Nat):Int):=by
 rw[Nl ω ω,RH ω ω];unfold oC;have e:((8:Int)*(j:Int)).toNat=8*j:=ω;rw[e,Zbj (by show 8*j<=64;omega),show(256:Nat) ^ j=2 ^ (8*j) by rw[Nat.pow_mul]];simp
theorem xK (h1: -9223372036854775808<=a*b) (c:a*b<=9223372036854775807):gG .i64 a b=a*b:=dG (sq.2 ⟨h1,c⟩)
def RJ {j:Nat} (a:j<=8):oC .i64 (u:Int) (8*(j:Int))=((u / 256 ^ j:Nat):Int):=by
 unfold oC;have e:((8:Int)*(j:Int)).toNat=8*j:=ω;rw[e,Zbj (by show 8*j<=64;omega),show(256:Nat) ^ j=2 ^ (8*j) by rw[Nat.pow_mul]];simp
theorem ib (s:By):dD s=(s.length:Int):=rfl
def b8U:b8 (jP .u8 (u:Int))=UInt8.ofNat u:=by
 unfold b8 jP;apply UInt8.toNat_inj.1;rw[UInt8.toNat_ofNat',UInt8.toNat_ofNat'];simp only[IntKind.wrap,IntKind.bits,IntKind.signed];simp;omega
end sx
set_option maxRecDepth 100000
set_option maxHeartbeats 4000000
namespace sx
noncomputable section
open Go Go.RowKit cls syn
variable {u:Nat} {b:By}
variable {k:Nat}
def nb (u:Nat):Nat:=if h:u=0 then 0 else nb (u / 256)+1
def dn (u j k:Nat):By:=((List.range' j (k-j)).reverse).map λi=>UInt8.ofNat (u / 256 ^ i)
def nN (b:By) (u j:Nat):By:=b++(UInt8.ofNat (nb u)::dn u j (nb u))
def a7 (b:By) (n:Int):By:=nN b (min n.toNat 9223372036854775807) 0
def RK (n:Int):Int:=(n.toNat:Int)
def nO:bh D where
 f:=82
 Y:=By×Int
 oM:=Qef
 pre:=λy=>y.1.length<=1073741824/\0<=y.2/\y.2<=1073741824
 args:=λy=>[.list 0 y.1,.int .i64 y.2]
 heap:=λ_=>[]
 res:=λy=>.grow 0 y.1 0
 dy:=λ_=>[(0,.tok 0 5)]
 jY:=0
 oS:=1
def RL (_:nO.Y):cH D:=⟨[],[],[],[],1,[]⟩
def Qeh (y:nO.Y):Prop:=lI [] f82 nO RL y
def gb:bh D where
 f:=33
 Y:=By×Int
 oM:=Qef
 pre:=λy=>y.1.length<=1073741824
 args:=λy=>[.list 0 y.1,.int .i64 y.2]
 heap:=λ_=>[]
 res:=λy=>.grow 0 (a7 y.1 y.2) 0
 dy:=λ_=>[(0,.tok 0 5)]
 jY:=0
 oS:=1
def QbP (y:gb.Y):cH D:=⟨[(0,.fact 1)],[],
  [(124,⟨Nat,[5,6],λk=>[(7,Qvo k)],[0],λ_=>[],1,λk=>k<=nb y.2.toNat,λk=>8-k⟩),
   (1018,⟨Nat,[6],λx=>[(5,.grow 0 (nN y.1 y.2.toNat x) 0),(8,Qvo ((x:Int) -1))],[],λ_=>[(0,.tok 0 5)],1,λx=>x<=nb y.2.toNat,λx=>x⟩)],
  [(31,⟨Unit,[5,6],λ_=>[(7,Qvo (nb y.2.toNat))],[0],λ_=>[],1,λ_=>True,λ_=>0⟩)],1,[]⟩
def Qha (y:gb.Y):Prop:=lI [nO] f33 gb QbP y
def iz:bh D where
 f:=37
 Y:=By×Int
 oM:=Qef
 pre:=λy=>y.1.length<=1073741824
 args:=λy=>[.list 0 y.1,.int .i64 y.2]
 heap:=λ_=>[]
 res:=λy=>.grow 0 (a7 y.1 y.2) 0
 dy:=λ_=>[(0,.tok 0 5)]
 jY:=0
 oS:=1
def QbQ (y:iz.Y):cH D:=⟨[(0,.fact 1)],[],
  [(250,⟨Nat,[1,5],λk=>[(6,Qvo k),(7,Qvo ((y.2.toNat / 256 ^ k:Nat):Int))],[1],λ_=>[],2,λk=>k<=nb y.2.toNat,λk=>nb y.2.toNat-k⟩),
   (1018,⟨Nat,[1],λx=>[(5,.grow 0 (nN y.1 y.2.toNat x) 0),(8,Qvo ((x:Int) -1))],[],λ_=>[(0,.tok 0 5)],1,λx=>x<=nb y.2.toNat,λx=>x⟩)],
  [(7,⟨Unit,[5],λ_=>[(1,Qvo (RK y.2))],[1],λ_=>[],2,λ_=>True,λ_=>0⟩)],1,[]⟩
def Qhb (y:iz.Y):Prop:=lI [] f37 iz QbQ y
def QnK (args:List (AV D.E)) (s:St D.E):C (By×Bool):=match args with
 | [a,b]=>az (aL D s 0 a) λl=>aP (zh b) λr _=>.ret ((l:By),r)
 | _=>.fail
def QnL (args:List (AV D.E)) (s:St D.E):C (By×By):=match args with
 | [a,b]=>az (aL D s 0 a) λl=>az (fY b) λr=>.ret ((l:By),r)
 | _=>.fail
def cJ (b:By) (f:Bool):By:=a7 b (if f=true then 1 else 0)
def gf (b s:By):By:=a7 b s.length++s
def ou:bh D where
 f:=34
 Y:=By×Bool
 oM:=QnK
 pre:=λy=>y.1.length<=1073741824
 args:=λy=>[.list 0 y.1,.bool y.2]
 heap:=λ_=>[]
 res:=λy=>.grow 0 (cJ y.1 y.2) 0
 dy:=λ_=>[(0,.tok 0 5)]
 jY:=0
 oS:=1
def QbR (_:ou.Y):cH D:=⟨[],[],[],[],1,[]⟩
def Qhc (y:ou.Y):Prop:=lI [gb] f34 ou QbR y
def kP:bh D:={ ou with f:=38 }
def RM (_:kP.Y):cH D:=⟨[],[],[],[],1,[]⟩
def Qei (y:kP.Y):Prop:=lI [iz] f38 kP RM y
def qN:bh D where
 f:=136
 Y:=By×By
 oM:=QnL
 pre:=λy=>y.1.length<=536870912/\y.2.length<=536870912
 args:=λy=>[.list 0 y.1,.str y.2]
 heap:=λ_=>[]
 res:=λy=>.grow 0 (gf y.1 y.2) 0
 dy:=λ_=>[(0,.tok 0 5)]
 jY:=0
 oS:=1
def QbS (_:qN.Y):cH D:=⟨[],[],[],[],1,[]⟩
def Qhd (y:qN.Y):Prop:=lI [nO,gb] f136 qN QbS y
def pf:bh D:={ qN with f:=142 }
def RN (_:pf.Y):cH D:=⟨[],[],[],[],1,[]⟩
def Qej (y:pf.Y):Prop:=lI [iz] f142 pf RN y
def Kx (y:Prod (List UInt8) Int):Prop:=let a:=bM ([]:List UInt8) y.1;let q1:=ay .i64 (ag y.1) y.2;((aG (0:Int) (0:Int)))/\((aG (0:Int) q1))/\((bJ q1 1))/\((bJ (ag a) 1))/\(a=y.1)/\True
def Nn:∀y,Kx y=Qeh y:=λy=>by kernel_rfl
def RO (y:Prod (List UInt8) Int):Prop:=let a:=Int.toNat y.2;let q1:=jP .u64 (imax y.2 (0:Int));let c:=bM y.1 ((b8 (jP .u8 ((nb a:Nat):Int)))::([]:List UInt8));((fK .i64 y.2))->(Iv (((List.length y.1:Nat)<=1073741824)/\(((0:Int):Int)<=(9:Int))/\((9:Int):Int)<=(1073741824:Int)))/\aa [y.1] (aa ([(9:Int)]:List Int) (((∃z:Nat,aa [y.1] (aa [q1] (((0:Int)=((z:Nat):Int))/\(Iv ((z:Nat)<=(nb a))))))/\(∀x:Nat,let d:=aw ((x:Nat):Int) (8:Int);let e:=gG .u64 (8:Int) (jP .u64 ((x:Nat):Int));let f:=aw (0:Int) (oC .u64 q1 e);(Iv ((x:Nat)<=(nb a)))->((d)->((aG (0:Int) e))/\((aG (0:Int) q1))/\((f)->∃z:Nat,aa [y.1] (aa [q1] (((ay .i64 ((x:Nat):Int) (1:Int))=((z:Nat):Int))/\(Iv (((z:Nat)<=(nb a))/\((8:Nat) -z:Nat)<((8:Nat) -x))))))/\((f=false)->∃z:Unit,aa [y.1] (aa [q1] ((((x:Nat):Int)=((nb a:Nat):Int))/\(Iv True)))))/\((d=false)->∃z:Unit,aa [y.1] (aa [q1] ((((x:Nat):Int)=((nb a:Nat):Int))/\(Iv True))))))/\(∀x:Unit,(Iv True)->((bJ (ag c) 1))/\(∃z:Nat,aa [q1] ((c=(nN y.1 a z))/\((cx .i64 ((nb a:Nat):Int) (1:Int))=((((z:Nat):Int):Int) -(1:Int)))/\(Iv ((z:Nat)<=(nb a)))))/\(∀b:Nat,let g:=nN y.1 a b;let h:=aG (0:Int) ((((b:Nat):Int):Int) -(1:Int));let i:=gG .u64 (8:Int) (jP .u64 ((((b:Nat):Int):Int) -(1:Int)));let j:=bM g ((b8 (jP .u8 (oC .u64 q1 i)))::([]:List UInt8));(Iv ((b:Nat)<=(nb a)))->((h)->((aG (0:Int) i))/\((aG (0:Int) q1))/\((bJ (ag j) 1))/\∃z:Nat,aa [q1] ((j=(nN y.1 a z))/\((cx .i64 ((((b:Nat):Int):Int) -(1:Int)) (1:Int))=((((z:Nat):Int):Int) -(1:Int)))/\(Iv (((z:Nat)<=(nb a))/\(z:Nat)<b))))/\((h=false)->(g=(a7 y.1 y.2))/\True)))))
def RP:∀y,RO y=Qha y:=λy=>by kernel_rfl
def RQ (y:Prod (List UInt8) Int):Prop:=let a:=Int.toNat y.2;let q1:=bM ([]:List UInt8) y.1;let d:=aw y.2 (0:Int);((fK .i64 y.2))->((bJ (ag q1) 1))/\(((d)->∃z:Unit,aa [q1] (((0:Int)=(RK y.2))/\(Iv True)))/\((d=false)->∃z:Unit,aa [q1] ((y.2=(RK y.2))/\(Iv True))))/\(∀x:Unit,(Iv True)->(∃z:Nat,aa [RK y.2] (aa [q1] (((0:Int)=((z:Nat):Int))/\((RK y.2)=(((a:Nat) / ((256:Nat) ^ z):Nat):Int))/\(Iv ((z:Nat)<=(nb a))))))/\(∀b:Nat,let e:=bM q1 ((b8 (jP .u8 ((b:Nat):Int)))::([]:List UInt8));let f:=aw (0:Int) (((a:Nat) / ((256:Nat) ^ b):Nat):Int);(Iv ((b:Nat)<=(nb a)))->((f)->((aG (0:Int) (8:Int)))/\((aG (0:Int) (((a:Nat) / ((256:Nat) ^ b):Nat):Int)))/\∃z:Nat,aa [RK y.2] (aa [q1] (((ay .i64 ((b:Nat):Int) (1:Int))=((z:Nat):Int))/\((oC .i64 (((a:Nat) / ((256:Nat) ^ b):Nat):Int) (8:Int))=(((a:Nat) / ((256:Nat) ^ z):Nat):Int))/\(Iv (((z:Nat)<=(nb a))/\((nb a:Nat) -z:Nat)<((nb a:Nat) -b))))))/\((f=false)->((bJ (ag e) 1))/\(∃z:Nat,aa [RK y.2] ((e=(nN y.1 a z))/\((cx .i64 ((b:Nat):Int) (1:Int))=((((z:Nat):Int):Int) -(1:Int)))/\(Iv ((z:Nat)<=(nb a)))))/\(∀c:Nat,let g:=nN y.1 a c;let h:=aG (0:Int) ((((c:Nat):Int):Int) -(1:Int));let i:=gG .i64 (8:Int) ((((c:Nat):Int):Int) -(1:Int));let j:=bM g ((b8 (jP .u8 (oC .i64 (RK y.2) i)))::([]:List UInt8));(Iv ((c:Nat)<=(nb a)))->((h)->((aG (0:Int) i))/\((aG (0:Int) (RK y.2)))/\((bJ (ag j) 1))/\∃z:Nat,aa [RK y.2] ((j=(nN y.1 a z))/\((cx .i64 ((((c:Nat):Int):Int) -(1:Int)) (1:Int))=((((z:Nat):Int):Int) -(1:Int)))/\(Iv (((z:Nat)<=(nb a))/\(z:Nat)<c))))/\((h=false)->(g=(a7 y.1 y.2))/\True)))))
def RR:∀y,RQ y=Qhb y:=λy=>by kernel_rfl
def RS (y:Prod (List UInt8) Bool):Prop:=let a:=cJ y.1 y.2;((y.2)->(Iv ((List.length y.1:Nat)<=1073741824))/\aa [y.1] (aa ([(1:Int)]:List Int) (((a7 y.1 (1:Int))=a)/\True)))/\((y.2=false)->(Iv ((List.length y.1:Nat)<=1073741824))/\aa [y.1] (aa ([(0:Int)]:List Int) (((a7 y.1 (0:Int))=a)/\True)))
def RT:∀y,RS y=Qhc y:=λy=>by kernel_rfl
def Ky (y:Prod (List UInt8) Bool):Prop:=let a:=cJ y.1 y.2;((y.2)->(Iv ((List.length y.1:Nat)<=1073741824))/\aa [y.1] (aa ([(1:Int)]:List Int) (((a7 y.1 (1:Int))=a)/\True)))/\((y.2=false)->(Iv ((List.length y.1:Nat)<=1073741824))/\aa [y.1] (aa ([(0:Int)]:List Int) (((a7 y.1 (0:Int))=a)/\True)))
def No:∀y,Ky y=Qei y:=λy=>by kernel_rfl
def RU (y:Prod (List UInt8) (List UInt8)):Prop:=let a:=ay .i64 (9:Int) (dD y.2);let q1:=bM (a7 y.1 (dD y.2)) y.2;(Iv (((List.length y.1:Nat)<=1073741824)/\(((0:Int):Int)<=a)/\(a:Int)<=(1073741824:Int)))/\aa [y.1] (aa [a] ((Iv ((List.length y.1:Nat)<=1073741824))/\aa [y.1] (aa [dD y.2] (((bJ (ag q1) 1))/\(q1=(gf y.1 y.2))/\True))))
def RV:∀y,RU y=Qhd y:=λy=>by kernel_rfl
def Kz (y:Prod (List UInt8) (List UInt8)):Prop:=let a:=bM (a7 y.1 (dD y.2)) y.2;(Iv ((List.length y.1:Nat)<=1073741824))/\aa [y.1] (aa [dD y.2] (((bJ (ag a) 1))/\(a=(gf y.1 y.2))/\True))
def Np:∀y,Kz y=Qej y:=λy=>by kernel_rfl
def KC:nb 0=0:=by rw[nb];rfl
def RW (h:u≠0):nb u=nb (u / 256)+1:=by rw[nb,dif_neg h]
theorem uD:∀(x u:Nat),x<nb u↔0<u / 256 ^ x
 | 0,u=>by
  rw[Nat.pow_zero,Nat.div_one];by_cases h:u=0
  ·subst h;rw[KC]
  ·rw[RW h];omega
 | x+1,u=>by
  by_cases h:u=0
  ·subst h;rw[KC];simp
  ·rw[RW h,Nat.pow_succ,Zb9,<-Nat.div_div_eq_div_mul,<-uD x (u / 256)];omega
def RX (h:u<18446744073709551616):nb u<=8:=by
 refine ZdA λa=>?_
 have:=(uD 8 u).1 a;have:u / 256 ^ 8=0:=Nat.div_eq_of_lt ω;omega
def KD {j k:Nat} (h:j<k):dn u j k=dn u (j+1) k++[UInt8.ofNat (u / 256 ^ j)]:=by
 unfold dn;rw[show k-j=(k-(j+1))+1 by omega,List.range'_succ];simp
def KE (u k:Nat):dn u k k=[]:=by unfold dn;simp
def Qek (u j k:Nat):(dn u j k).length=k-j:=by unfold dn;simp
def xL (b:By) (u j:Nat):(nN b u j).length=b.length+1+(nb u-j):=by unfold nN;simp[Qek];omega
def Qel (y:By×Int) (a:nO.pre y):Kx y:=by
 obtain⟨h1,b,c⟩:y.1.length<=1073741824/\0<=y.2/\y.2<=1073741824:=a;have e:ay IntKind.i64 (ag y.1) y.2=(y.1.length:Int)+y.2:=ba (by rw[au];omega) (by rw[au];omega);refine⟨rfl,?_,?_,?_,?_,trivial⟩
 ·rw[e,fm];omega
 ·rw[e,br];omega
 ·rw[aT,au,br];simp;omega
 ·rw[aT];rfl
def KG:Ok nO:=nM (tab:=[]) (fn:=f82) (fI:=RL) (by simp) (by kernel_rfl) (by kernel_rfl) (λ_=>by exact ZcY (by kernel_rfl)) λy a=>Eq.mp (Nn y) (Qel y a)
def Qhe (y:By×Int) (g:gb.pre y):RO y:=by
 have h1:y.1.length<=1073741824:=g;intro e;rw[sq] at e;have hu:y.2.toNat<9223372036854775808:=ω;have b:jP IntKind.u64 (imax y.2 (0:Int))=(y.2.toNat:Int):=by rw[Qg9];exact Nl ω ω
 have hk:=RX (u:=y.2.toNat) ω;refine⟨⟨h1,ω,ω⟩,rfl,rfl,⟨⟨0,rfl,rfl,rfl,⟨Zaj _⟩⟩,λx c=>?_⟩,λ_ _=>⟨?_,⟨nb y.2.toNat,rfl,?_,?_,⟨Zah _⟩⟩,λx c=>?_⟩⟩
 ·have c:=c.out;refine⟨λa=>⟨?_,?_,λd=>⟨x+1,rfl,rfl,?_,⟨?_,?_⟩⟩,λd=>⟨(),rfl,rfl,?_,⟨trivial⟩⟩⟩,λa=>⟨(),rfl,rfl,?_,⟨trivial⟩⟩⟩
  ·rw[Nl ω ω,RH ω ω,fm];omega
  ·rw[b,fm];omega
  ·rw[ba ω ω];rfl
  ·rw[b,RI ω ω,dA] at d;have:=(uD x y.2.toNat).2 ω;omega
  ·rw[dA] at a;omega
  ·rw[b,RI ω ω,hU] at d;have:¬x<nb y.2.toNat:=λf=>by
    have:=(uD x y.2.toNat).1 f;omega
   show(x:Int)=(nb y.2.toNat:Int)
   omega
  ·rw[hU] at a;show(x:Int)=(nb y.2.toNat:Int)
   omega
 ·rw[aT,au,br];simp;omega
 ·rw[aT,b8U];unfold nN;rw[KE]
 ·rw[jQ ω ω]
 ·have c:=c.out;refine⟨λa=>?_,λa=>⟨?_,trivial⟩⟩
  ·rw[fm] at a;have ex:((x:Int) -1)=((x-1:Nat):Int):=ω;refine⟨?_,?_,?_,x-1,rfl,?_,?_,⟨?_,?_⟩⟩
   ·rw[Nl ω ω,RH ω ω,fm];omega
   ·rw[b,fm];omega
   ·rw[aT,au,br];simp[xL];omega
   ·rw[b,ex,RI ω ω,b8U,aT];unfold nN;have:=KD (u:=y.2.toNat) (j:=x-1) (k:=nb y.2.toNat) ω;rw[show x-1+1=x by omega] at this;rw[this];simp
   ·rw[ex,jQ ω ω]
   ·omega
   ·omega
  ·rw[RF] at a;have:x=0:=ω;subst this;show nN y.1 y.2.toNat 0=nN y.1 (min y.2.toNat 9223372036854775807) 0
   rw[Zbj ω]
def kQ:Ok gb:=nM (tab:=[nO]) (fn:=f33) (fI:=QbP) (by simp;exact KG) (by kernel_rfl) (by kernel_rfl) (λ_=>by exact ZcY (by kernel_rfl)) λy a=>Eq.mp (RP y) (Qhe y a)
def Qhf (y:By×Int) (i:iz.pre y):RQ y:=by
 have h1:y.1.length<=1073741824:=i;intro g;rw[sq] at g;have hu:y.2.toNat<9223372036854775808:=ω;have hk:=RX (u:=y.2.toNat) ω;have c:RK y.2=(y.2.toNat:Int):=rfl;refine⟨?_,⟨λa=>⟨(),rfl,?_,⟨trivial⟩⟩,λa=>⟨(),rfl,?_,⟨trivial⟩⟩⟩,λ_ _=>⟨⟨0,rfl,rfl,rfl,?_,⟨Zaj _⟩⟩,λx d=>⟨λa=>⟨rfl,?_,x+1,rfl,rfl,?_,?_,⟨?_,?_⟩⟩,λa=>⟨?_,⟨nb y.2.toNat,rfl,?_,?_,⟨Zah _⟩⟩,λz hz=>⟨λf=>?_,λf=>⟨?_,trivial⟩⟩⟩⟩⟩⟩
 ·rw[aT,au,br];simp;omega
 ·rw[dA] at a;rw[c];omega
 ·rw[hU] at a;rw[c];omega
 ·rw[c];simp
 ·rw[fm];exact ZaF _
 ·have:=d.out;rw[ba ω ω];rfl
 ·have e:=RJ (u:=y.2.toNat / 256 ^ x) (j:=1) ω;rw[show(8:Int)*((1:Nat):Int)=8 by rfl] at e;rw[e,Nat.div_div_eq_div_mul,Nat.pow_one,<-Nat.pow_succ]
 ·rw[dA] at a;have:=(uD x y.2.toNat).2 ω;omega
 ·rw[dA] at a;have:=(uD x y.2.toNat).2 ω;omega
 ·rw[aT,aT,au,br];simp;omega
 ·have d:=d.out;rw[hU] at a;have h:¬x<nb y.2.toNat:=λb=>by
   have:=(uD x y.2.toNat).1 b;omega
  have:x=nb y.2.toNat:=ω;subst this;rw[aT,aT,b8U];unfold nN;rw[KE];rfl
 ·have d:=d.out;rw[hU] at a;have h:¬x<nb y.2.toNat:=λb=>by
   have:=(uD x y.2.toNat).1 b;omega
  have:x=nb y.2.toNat:=ω;subst this;rw[jQ ω ω]
 ·have hz:=hz.out;rw[fm] at f;have ex:((z:Int) -1)=((z-1:Nat):Int):=ω;have em:gG .i64 8 ((z-1:Nat):Int)=8*((z-1:Nat):Int):=xK ω ω;refine⟨?_,?_,?_,z-1,rfl,?_,?_,⟨?_,?_⟩⟩
  ·rw[ex,em,fm];omega
  ·rw[c,fm];omega
  ·rw[aT,au,br];simp[xL];omega
  ·rw[c,ex,em,RJ ω,b8U,aT];unfold nN;have:=KD (u:=y.2.toNat) (j:=z-1) (k:=nb y.2.toNat) ω;rw[show z-1+1=z by omega] at this;rw[this];simp
  ·rw[ex,jQ ω ω]
  ·omega
  ·omega
 ·have hz:=hz.out;rw[RF] at f;have:z=0:=ω;subst this;show nN y.1 y.2.toNat 0=nN y.1 (min y.2.toNat 9223372036854775807) 0
  rw[Zbj ω]
def nP:Ok iz:=nM (tab:=[]) (fn:=f37) (fI:=QbQ) (by simp) (by kernel_rfl) (by kernel_rfl) (λ_=>by exact ZcY (by kernel_rfl)) λy a=>Eq.mp (RR y) (Qhf y a)
def bX (b:By) (n:Int):(a7 b n).length<=b.length+9:=by
 have:=RX (u:=min n.toNat 9223372036854775807) ω;unfold a7;rw[xL];omega
def Qhg (y:By×Bool) (a:ou.pre y):RS y:=
 ⟨λh=>⟨⟨a⟩,rfl,rfl,by unfold cJ;rw[Zac h],trivial⟩,λh=>⟨⟨a⟩,rfl,rfl,by unfold cJ;rw[Zaa (by rw[h];simp)],trivial⟩⟩
def Cm:Ok ou:=nM (tab:=[gb]) (fn:=f34) (fI:=QbR) (by simp;exact kQ) (by kernel_rfl) (by kernel_rfl) (λ_=>by exact ZcY (by kernel_rfl)) λy a=>Eq.mp (RT y) (Qhg y a)
def Qem (y:By×Bool) (a:kP.pre y):Ky y:=
 ⟨λh=>⟨⟨a⟩,rfl,rfl,by unfold cJ;rw[Zac h],trivial⟩,λh=>⟨⟨a⟩,rfl,rfl,by unfold cJ;rw[Zaa (by rw[h];simp)],trivial⟩⟩
def vX:Ok kP:=nM (tab:=[iz]) (fn:=f38) (fI:=RM) (by simp;exact nP) (by kernel_rfl) (by kernel_rfl) (λ_=>by exact ZcY (by kernel_rfl)) λy a=>Eq.mp (No y) (Qem y a)
def Qhh (y:By×By) (a:qN.pre y):RU y:=by
 obtain⟨h1,b⟩:y.1.length<=536870912/\y.2.length<=536870912:=a;have e:ay IntKind.i64 (9:Int) (dD y.2)=9+(y.2.length:Int):=ba (by rw[ib];omega) (by rw[ib];omega);have hl:=bX y.1 (y.2.length:Int);refine⟨⟨ω,by rw[e];omega,by rw[e];omega⟩,rfl,rfl,⟨ω⟩,rfl,rfl,?_,rfl,trivial⟩;rw[aT,au,ib,br];simp;omega
def GY:Ok qN:=nM (tab:=[nO,gb]) (fn:=f136) (fI:=QbS) (by simp;exact⟨KG,kQ⟩) (by kernel_rfl) (by kernel_rfl) (λ_=>by exact ZcY (by kernel_rfl)) λy a=>Eq.mp (RV y) (Qhh y a)
def Qen (y:By×By) (a:pf.pre y):Kz y:=by
 obtain⟨h1,b⟩:y.1.length<=536870912/\y.2.length<=536870912:=a;have hl:=bX y.1 (y.2.length:Int);refine⟨⟨ω⟩,rfl,rfl,?_,rfl,trivial⟩;rw[aT,au,ib,br];simp;omega
def KH:Ok pf:=nM (tab:=[iz]) (fn:=f142) (fI:=RN) (by simp;exact nP) (by kernel_rfl) (by kernel_rfl) (λ_=>by exact ZcY (by kernel_rfl)) λy a=>Eq.mp (Np y) (Qen y a)
def sr (x:Int):Int:=cM (imax x (-1)) 9223372036854775806+1
def bw (c:cn):List Int:=[c.c0,c.c1,c.c2,c.c3,c.c4,c.c5,c.c6,c.c7,c.c8,c.c9]
def kR (b:By) (c:cn):By:=(bw c).foldl (λb x=>a7 b (sr x)) b
def Qhi (args:List (AV D.E)) (s:St D.E):C (By×cn):=match args with
 | [a,b]=>az (aL D s 0 a) λl=>az (asAgg b) λcs=>az (cR (Ku cs)) λc=>.ret ((l:By),(c:cn))
 | _=>.fail
def ss:bh D where
 f:=139
 Y:=By×cn
 oM:=Qhi
 pre:=λy=>y.1.length<=1073741724
 args:=λy=>[.list 0 y.1,.agg (dj 11 y.2)]
 heap:=λ_=>[]
 res:=λy=>.grow 0 (kR y.1 y.2) 0
 dy:=λ_=>[(0,.tok 0 5)]
 jY:=0
 oS:=1
def QbT (_:ss.Y):cH D:=⟨[(0,.fact 1)],[],[],[],11,[]⟩
def Qhj (y:ss.Y):Prop:=lI [gb] f139 ss QbT y
def RY (y:Prod (List UInt8) cn):Prop:=let j:=ay .i64 (cM (imax (cn.c0 y.2) (Neg.neg (1:Int))) (9223372036854775806:Int)) (1:Int);let q1:=ay .i64 (cM (imax (cn.c3 y.2) (Neg.neg (1:Int))) (9223372036854775806:Int)) (1:Int);let k:=ay .i64 (cM (imax (cn.c9 y.2) (Neg.neg (1:Int))) (9223372036854775806:Int)) (1:Int);let l:=ay .i64 (cM (imax (cn.c8 y.2) (Neg.neg (1:Int))) (9223372036854775806:Int)) (1:Int);let m:=ay .i64 (cM (imax (cn.c7 y.2) (Neg.neg (1:Int))) (9223372036854775806:Int)) (1:Int);let n:=ay .i64 (cM (imax (cn.c6 y.2) (Neg.neg (1:Int))) (9223372036854775806:Int)) (1:Int);let o:=ay .i64 (cM (imax (cn.c5 y.2) (Neg.neg (1:Int))) (9223372036854775806:Int)) (1:Int);let p:=ay .i64 (cM (imax (cn.c1 y.2) (Neg.neg (1:Int))) (9223372036854775806:Int)) (1:Int);let q:=ay .i64 (cM (imax (cn.c4 y.2) (Neg.neg (1:Int))) (9223372036854775806:Int)) (1:Int);let r:=ay .i64 (cM (imax (cn.c2 y.2) (Neg.neg (1:Int))) (9223372036854775806:Int)) (1:Int);let a:=a7 y.1 j;let b:=a7 a p;let c:=a7 b r;let d:=a7 c q1;let e:=a7 d q;let f:=a7 e o;let g:=a7 f n;let h:=a7 g m;let i:=a7 h l;(((fK .i64 (cn.c0 y.2)))/\((fK .i64 (cn.c1 y.2)))/\((fK .i64 (cn.c2 y.2)))/\((fK .i64 (cn.c3 y.2)))/\((fK .i64 (cn.c4 y.2)))/\((fK .i64 (cn.c5 y.2)))/\((fK .i64 (cn.c6 y.2)))/\((fK .i64 (cn.c7 y.2)))/\((fK .i64 (cn.c8 y.2)))/\((fK .i64 (cn.c9 y.2)))/\True)->(Iv ((List.length y.1:Nat)<=1073741824))/\aa [y.1] (aa [j] ((Iv ((List.length a:Nat)<=1073741824))/\aa [a] (aa [p] ((Iv ((List.length b:Nat)<=1073741824))/\aa [b] (aa [r] ((Iv ((List.length c:Nat)<=1073741824))/\aa [c] (aa [q1] ((Iv ((List.length d:Nat)<=1073741824))/\aa [d] (aa [q] ((Iv ((List.length e:Nat)<=1073741824))/\aa [e] (aa [o] ((Iv ((List.length f:Nat)<=1073741824))/\aa [f] (aa [n] ((Iv ((List.length g:Nat)<=1073741824))/\aa [g] (aa [m] ((Iv ((List.length h:Nat)<=1073741824))/\aa [h] (aa [l] ((Iv ((List.length i:Nat)<=1073741824))/\aa [i] (aa [k] (((a7 i k)=(kR y.1 y.2))/\True))))))))))))))))))))
def RZ:∀y,RY y=Qhj y:=λy=>by kernel_rfl
def QbU (x:Int):ay IntKind.i64 (cM (imax x (Neg.neg (1:Int))) (9223372036854775806:Int)) (1:Int)=sr x:=by
 unfold sr;have h: -1<=cM (imax x (-1)) 9223372036854775806/\cM (imax x (-1)) 9223372036854775806<=9223372036854775806:=by
  unfold cM imax;split<;>split<;>omega
 exact ba ω ω
def db (x:Int) (h:b.length<=u):(a7 b (sr x)).length<=u+9:=by
 have:=bX b (sr x);omega
def Qhk (y:By×cn) (a:ss.pre y):RY y:=by
 have h1:y.1.length<=1073741724:=a;intro _;simp only[dw,QbU,Zai];have b:=db y.2.c0 h1;have c:=db y.2.c1 b;have d:=db y.2.c2 c;have e:=db y.2.c3 d;have f:=db y.2.c4 e;have g:=db y.2.c5 f;have h:=db y.2.c6 g;have i:=db y.2.c7 h;have j:=db y.2.c8 i;exact⟨⟨ω⟩,⟨ω⟩,⟨ω⟩,⟨ω⟩,⟨ω⟩,⟨ω⟩,⟨ω⟩,⟨ω⟩,⟨ω⟩,⟨ω⟩,rfl⟩
def R0:Ok ss:=nM (tab:=[gb]) (fn:=f139) (fI:=QbT) (by simp;exact kQ) (by kernel_rfl) (by kernel_rfl) (λ_=>by exact ZcY (by kernel_rfl)) λy a=>Eq.mp (RZ y) (Qhk y a)
def kS (t:aX):cn:=⟨t.c0,t.c1,t.c2,t.c3,t.c4,t.c5,t.c6,t.c7,t.c8,t.c9⟩
def zA (b:By) (t:aX):By:=kR (a7 b t.pc) (kS t)
def ov (b:By) (l:List aX) (i:Nat):By:=(l.take i).foldl zA (a7 b l.length)
def xM (b:By) (l:List aX):By:=l.foldl zA (a7 b l.length)
def GZ:bh D where
 f:=141
 Y:=By×aX
 oM:=λargs s=>match args with
  | [a,b]=>az (aL D s 0 a) λl=>az (asAgg b) λcs=>az (cR (xE cs)) λc=>.ret ((l:By),(c:aX))
  | _=>.fail
 pre:=λy=>y.1.length<=1073741624
 args:=λy=>[.list 0 y.1,.agg (dj 1 y.2)]
 heap:=λ_=>[]
 res:=λy=>.grow 0 (zA y.1 y.2) 0
 dy:=λ_=>[(0,.tok 0 5)]
 jY:=0
 oS:=1
def Qhl (_:GZ.Y):cH D:=⟨[],[],[],[],1,[]⟩
def QnM (y:GZ.Y):Prop:=lI [gb,ss] f141 GZ Qhl y
def xN:bh D where
 f:=140
 Y:=By×List aX
 oM:=λargs s=>match args with
  | [a,b,_]=>az (aL D s 0 a) λl=>az (aL D s 1 b) λc=>.ret ((l:By),(c:List aX))
  | _=>.fail
 pre:=λy=>y.1.length+99*y.2.length<=1073741524
 args:=λy=>[.list 0 y.1,.list 1 y.2,.func (.func 141) [] []]
 heap:=λ_=>[]
 res:=λy=>.grow 0 (xM y.1 y.2) 0
 dy:=λ_=>[(0,.tok 0 5)]
 jY:=0
 oS:=1
def QbV (y:xN.Y):cH D:=⟨[],[],[(58,⟨Nat,[2,14,15],λi=>[(7,.grow 0 (ov y.1 y.2 i) 0),(16,Qvo i)],[],λ_=>[(0,.tok 0 5)],1,λi=>i<=y.2.length,λi=>y.2.length-i⟩)],[],1,[]⟩
def Qhm (y:xN.Y):Prop:=lI [gb,GZ] f140 xN QbV y
def R1 (y:Prod (List UInt8) aX):Prop:=let a:=a7 y.1 (aX.pc y.2);(Iv ((List.length y.1:Nat)<=1073741824))/\aa [y.1] (aa [aX.pc y.2] ((Iv ((List.length a:Nat)<=1073741724))/\aa [a] (aa (bw (kS y.2)++[aX.pc y.2]++bw (kS y.2)++bw (kS y.2)) (((kR a (kS y.2))=(zA y.1 y.2))/\True))))
def Yz:∀y,R1 y=QnM y:=λy=>by kernel_rfl
def G0 (y:Prod (List UInt8) (List aX)):Prop:=let a:=List.length y.2;(Iv ((List.length y.1:Nat)<=1073741824))/\aa [y.1] (aa [ag y.2] ((∃z:Nat,aa [y.2] (aa [ag y.2] (((a7 y.1 (ag y.2))=(ov y.1 y.2 z))/\((0:Int)=((z:Nat):Int))/\(Iv ((z:Nat)<=a)))))/\(∀x:Nat,let q1:=aw ((x:Nat):Int) (ag y.2);let b:=ov y.1 y.2 x;let c:=gN dT0 y.2 x;(Iv ((x:Nat)<=a))->((q1)->((aG (0:Int) ((x:Nat):Int)))/\(q1)/\(Iv ((List.length b:Nat)<=1073741624))/\aa [b] (aa ([aX.pc c]++bw (kS c)) (∃z:Nat,aa [y.2] (aa [ag y.2] (((zA b c)=(ov y.1 y.2 z))/\((ay .i64 ((x:Nat):Int) (1:Int))=((z:Nat):Int))/\(Iv (((z:Nat)<=a)/\((a:Nat) -z:Nat)<((a:Nat) -x))))))))/\((q1=false)->(b=(xM y.1 y.2))/\True))))
def R2:∀y,G0 y=Qhm y:=λy=>by kernel_rfl
def mK (c:cn) (h:b.length<=k):(kR b c).length<=k+90:=by
 have a:=db c.c0 h;have d:=db c.c1 a;have e:=db c.c2 d;have f:=db c.c3 e;have g:=db c.c4 f;have i:=db c.c5 g;have j:=db c.c6 i;have l:=db c.c7 j;have m:=db c.c8 l;exact db c.c9 m
def R3 (t:aX) (h:b.length<=k):(zA b t).length<=k+99:=by
 have:=bX b t.pc;have:=mK (b:=a7 b t.pc) (k:=k+9) (kS t) ω;unfold zA;omega
def tx (b:By) (l:List aX) (i:Nat) (hi:i<=l.length):(ov b l i).length<=b.length+9+99*i:=by
 unfold ov;have key:∀(m:List aX) (c:By),(m.foldl zA c).length<=c.length+99*m.length:=by
  intro m
  induction m with
  | nil=>intro c;simp
  | cons t m e=>
   intro c;have h1:=e (zA c t);have a:=R3 (b:=c) t (Zah _);simp only[Zb2,Zae];omega
 have h1:=key (l.take i) (a7 b l.length);have a:=bX b l.length;have d:(l.take i).length=i:=by simp;omega
 rw[d] at h1;omega
def xO {l:List aX} (d:aX) (h:u<l.length):zA (ov b l u) (gt d l u)=ov b l (u+1):=by
 unfold ov;rw[oX h,<-Zb4 h,Zcd];rfl
def tz (b:By) (l:List aX):ov b l l.length=xM b l:=by
 unfold ov xM;rw[ZaM]
def QnN (y:By×aX) (a:GZ.pre y):R1 y:=by
 have h1:y.1.length<=1073741624:=a;have b:=bX y.1 y.2.pc;unfold R1;simp only[dw,Zai];exact⟨⟨ω⟩,⟨ω⟩,rfl⟩
def Qhn:Ok GZ:=nM (tab:=[gb,ss]) (fn:=f141) (fI:=Qhl) (by simp;exact⟨kQ,R0⟩) (by kernel_rfl) (by kernel_rfl) (λ_=>by exact ZcY (by kernel_rfl)) λy a=>Eq.mp (Yz y) (QnN y a)
def Qho (y:By×List aX) (c:xN.pre y):G0 y:=by
 have h1:y.1.length+99*y.2.length<=1073741524:=c;unfold G0;simp only[dw,Zai];refine⟨⟨ω⟩,⟨0,rfl,rfl,⟨Zaj _⟩⟩,λx b=>⟨λa=>⟨?_,a,⟨?_⟩,x+1,?_,?_,⟨?_,?_⟩⟩,λa=>?_⟩⟩
 ·rw[fm];omega
 ·have:=tx y.1 y.2 x b.out;have:=b.out;omega
 ·rw[dA,au] at a;exact xO _ ω
 ·rw[dA,au] at a;rw[ba ω ω];rfl
 ·rw[dA,au] at a;omega
 ·rw[dA,au] at a;omega
 ·rw[hU,au] at a;have:x=y.2.length:=by have:=b.out;omega
  rw[this];exact tz _ _
def Qeo:Ok xN:=nM (tab:=[gb,GZ]) (fn:=f140) (fI:=QbV) (by simp;exact⟨kQ,Qhn⟩) (by kernel_rfl) (by kernel_rfl) (λ_=>by exact ZcY (by kernel_rfl)) λy a=>Eq.mp (R2 y) (Qho y a)
def fV (t:dd):cn:=⟨t.c0,t.c1,t.c2,t.c3,t.c4,t.c5,t.c6,t.c7,t.c8,t.c9⟩
def zB (b:By) (t:dd):By:=xM (kR (cJ b t.done) (fV t)) t.aJ
def ph (t:dd):Nat:=108+99*t.aJ.length
def dc (l:List dd):Nat:=(l.map ph).sum
def gS (b:By) (l:List dd) (i:Nat):By:=(l.take i).foldl zB (a7 b l.length)
def fM (b:By) (l:List dd):By:=l.foldl zB (a7 b l.length)
def G9:bh D where
 f:=138
 Y:=By×dd
 oM:=λargs s=>match args with
  | [a,b]=>az (aL D s 0 a) λl=>az (asAgg b) λcs=>az (cR (GW cs)) λc=>.ret ((l:By),(c:dd))
  | _=>.fail
 pre:=λy=>y.1.length+ph y.2<=1073741524
 args:=λy=>[.list 0 y.1,.agg (dj 2 y.2)]
 heap:=λ_=>[]
 res:=λy=>.grow 0 (zB y.1 y.2) 0
 dy:=λ_=>[(0,.tok 0 5)]
 jY:=0
 oS:=1
def Qhp (_:G9.Y):cH D:=⟨[],[],[],[],1,[]⟩
def QnO (y:G9.Y):Prop:=lI [ou,ss,xN] f138 G9 Qhp y
def xP:bh D where
 f:=137
 Y:=By×List dd
 oM:=λargs s=>match args with
  | [a,b,_]=>az (aL D s 0 a) λl=>az (aL D s 2 b) λc=>.ret ((l:By),(c:List dd))
  | _=>.fail
 pre:=λy=>y.1.length+dc y.2<=1073741424
 args:=λy=>[.list 0 y.1,.list 2 y.2,.func (.func 138) [] []]
 heap:=λ_=>[]
 res:=λy=>.grow 0 (fM y.1 y.2) 0
 dy:=λ_=>[(0,.tok 0 5)]
 jY:=0
 oS:=1
def QbW (y:xP.Y):cH D:=⟨[],[],[(58,⟨Nat,[2,14,15],λi=>[(7,.grow 0 (gS y.1 y.2 i) 0),(16,Qvo i)],[],λ_=>[(0,.tok 0 5)],1,λi=>i<=y.2.length,λi=>y.2.length-i⟩)],[],1,[]⟩
def Qhq (y:xP.Y):Prop:=lI [gb,G9] f137 xP QbW y
def XF:bh D where
 f:=86
 Y:=By×List dd
 oM:=λargs s=>match args with
  | [a,b]=>az (aL D s 0 a) λl=>az (aL D s 2 b) λc=>.ret ((l:By),(c:List dd))
  | _=>.fail
 pre:=λy=>y.1.length+dc y.2<=1073741424
 args:=λy=>[.list 0 y.1,.list 2 y.2]
 heap:=λ_=>[]
 res:=λy=>.grow 0 (fM y.1 y.2) 0
 dy:=λ_=>[(0,.tok 0 5)]
 jY:=0
 oS:=1
def plO (_:XF.Y):cH D:=⟨[],[],[],[],1,[]⟩
def plV (y:XF.Y):Prop:=lI [xP] f86 XF plO y
def R4 (y:Prod (List UInt8) dd):Prop:=let a:=cJ y.1 (dd.done y.2);let q1:=kR a (fV y.2);(Iv ((List.length y.1:Nat)<=1073741824))/\aa [y.1] (aa [dd.done y.2] ((Iv ((List.length a:Nat)<=1073741724))/\aa [a] (aa (bw (fV y.2)) (aa [dd.done y.2] (aa (bw (fV y.2)++bw (fV y.2)) ((Iv (((List.length q1:Nat)+((99:Nat)*(List.length (dd.aJ y.2))):Nat)<=1073741524))/\aa [q1] (aa [dd.aJ y.2] (((xM q1 (dd.aJ y.2))=(zB y.1 y.2))/\True))))))))
def YA:∀y,R4 y=QnO y:=λy=>by kernel_rfl
def G' (y:Prod (List UInt8) (List dd)):Prop:=let a:=List.length y.2;(Iv ((List.length y.1:Nat)<=1073741824))/\aa [y.1] (aa [ag y.2] ((∃z:Nat,aa [y.2] (aa [ag y.2] (((a7 y.1 (ag y.2))=(gS y.1 y.2 z))/\((0:Int)=((z:Nat):Int))/\(Iv ((z:Nat)<=a)))))/\(∀x:Nat,let q1:=aw ((x:Nat):Int) (ag y.2);let c:=gS y.1 y.2 x;let b:=gN fu y.2 x;(Iv ((x:Nat)<=a))->((q1)->((aG (0:Int) ((x:Nat):Int)))/\(q1)/\(Iv (((List.length c:Nat)+(ph b):Nat)<=1073741524))/\aa [c] (aa [dd.done b] (aa (bw (fV b)) (aa [dd.aJ b] (∃z:Nat,aa [y.2] (aa [ag y.2] (((zB c b)=(gS y.1 y.2 z))/\((ay .i64 ((x:Nat):Int) (1:Int))=((z:Nat):Int))/\(Iv (((z:Nat)<=a)/\((a:Nat) -z:Nat)<((a:Nat) -x))))))))))/\((q1=false)->(c=(fM y.1 y.2))/\True))))
def R5:∀y,G' y=Qhq y:=λy=>by kernel_rfl
def Qep (y:Prod (List UInt8) (List dd)):Prop:=let a:=fM y.1 y.2;(Iv (((List.length y.1:Nat)+(dc y.2):Nat)<=1073741424))/\aa [y.1] (aa [y.2] (aa [a] (True)))
def Qeq:∀y,Qep y=plV y:=λy=>by kernel_rfl
def gM (b:By) (f:Bool):(cJ b f).length<=b.length+9:=bX b _
def Nq (b:By) (l:List aX):(xM b l).length<=b.length+9+99*l.length:=by
 have:=tx b l l.length (Zah _);rw[tz] at this;exact this
def R6 (b:By) (t:dd):(zB b t).length<=b.length+ph t:=by
 have h1:=gM b t.done;have a:=mK (b:=cJ b t.done) (fV t) h1;have c:=Nq (kR (cJ b t.done) (fV t)) t.aJ;unfold zB ph;omega
def tA (b:By) (l:List dd) (i:Nat):(gS b l i).length<=b.length+9+dc (l.take i):=by
 unfold gS dc;have key:∀(m:List dd) (c:By),(m.foldl zB c).length<=c.length+(m.map ph).sum:=by
  intro m
  induction m with
  | nil=>intro c;simp
  | cons t m d=>
   intro c;have h1:=d (zB c t);have a:=R6 c t;simp only[Zb2,Zbl,Zco];omega
 have h1:=key (l.take i) (a7 b l.length);have a:=bX b l.length;omega
def xQ (l:List dd) (h:u<l.length):dc (l.take u)+ph l[u]<=dc l:=by
 have e2:l=l.take u++l[u]::l.drop (u+1):=by rw[<-Zaq h,ZaO]
 have e:dc l=dc (l.take u++l[u]::l.drop (u+1)):=ZaR dc e2;rw[e];unfold dc;rw[ZcG,List.sum_append,Zbl,Zco];omega
def xR {l:List dd} (d:dd) (h:u<l.length):zB (gS b l u) (gt d l u)=gS b l (u+1):=by
 unfold gS;rw[oX h,<-Zb4 h,Zcd];rfl
def tB (b:By) (l:List dd):gS b l l.length=fM b l:=by
 unfold gS fM;rw[ZaM]
def QnP (y:By×dd) (c:G9.pre y):R4 y:=by
 have h0:y.1.length+ph y.2<=1073741524:=c;unfold ph at h0;have h1:=gM y.1 y.2.done;have d:=mK (b:=cJ y.1 y.2.done) (fV y.2) h1;unfold R4;simp only[dw,Zai];refine⟨⟨ω⟩,⟨ω⟩,⟨?_⟩,rfl⟩;have a:(kR (cJ y.1 y.2.done) (fV y.2)).length+99*y.2.aJ.length<=1073741524:=ω;exact a
def Qhr:Ok G9:=nM (tab:=[ou,ss,xN]) (fn:=f138) (fI:=Qhp) (by simp;exact⟨Cm,R0,Qeo⟩) (by kernel_rfl) (by kernel_rfl) (λ_=>by exact ZcY (by kernel_rfl)) λy a=>Eq.mp (YA y) (QnP y a)
def Qhs (y:By×List dd) (d:xP.pre y):G' y:=by
 have h1:y.1.length+dc y.2<=1073741424:=d;have g:y.2.length<=dc y.2:=by
  unfold dc;generalize y.2=l
  induction l with
  | nil=>simp
  | cons t l h=>
   simp only[Zae,Zbl,Zco];have:1<=ph t:=by unfold ph;omega
   omega
 unfold G';simp only[dw,Zai];refine⟨⟨ω⟩,⟨0,rfl,rfl,⟨Zaj _⟩⟩,λx c=>⟨λa=>⟨?_,a,⟨?_⟩,x+1,?_,?_,⟨?_,?_⟩⟩,λa=>?_⟩⟩
 ·rw[fm];omega
 ·rw[dA,au] at a;have b:x<y.2.length:=ω;have e:=tA y.1 y.2 x;have f:=xQ y.2 b;show(gS y.1 y.2 x).length+ph (gt _ y.2 x)<=1073741524
  rw[oX b];omega
 ·rw[dA,au] at a;exact xR _ ω
 ·rw[dA,au] at a;rw[ba ω ω];rfl
 ·rw[dA,au] at a;omega
 ·rw[dA,au] at a;omega
 ·rw[hU,au] at a;have:x=y.2.length:=by have:=c.out;omega
  rw[this];exact tB _ _
def Qer:Ok xP:=nM (tab:=[gb,G9]) (fn:=f137) (fI:=QbW) (by simp;exact⟨kQ,Qhr⟩) (by kernel_rfl) (by kernel_rfl) (λ_=>by exact ZcY (by kernel_rfl)) λy a=>Eq.mp (R5 y) (Qhs y a)
def plH (y:By×List dd) (a:XF.pre y):Qep y:=by
 have h1:y.1.length+dc y.2<=1073741424:=a;unfold Qep;simp only[dw,Zai];exact⟨h1⟩
def Qht:Ok XF:=nM (tab:=[xP]) (fn:=f86) (fI:=plO) (by simp;exact Qer) (by kernel_rfl) (by kernel_rfl) (λ_=>by exact ZcY (by kernel_rfl)) λy a=>Eq.mp (Qeq y) (plH y a)
structure dM where
 held:By
 aI:Int
 lists:List dd
structure bd where
 at_:Int
 bN:Int
 ch:Bool
 opened:Bool
 bj:Int
 size:Int
 aS:List dd
 a8:dM
 aH:dM
 aZ:dM
variable {c:Int}
def QnQ (x:dM):List (AV D.E):=[.list 0 x.held,.int .i64 x.aI,.list 2 x.lists]
def Qhu (x:bd):List (AV D.E):=[.int .i64 x.at_,.int .i64 x.bN,.bool x.ch,.bool x.opened,.int .i64 x.bj,.int .i64 x.size,.list 2 x.aS,
 .list 0 x.a8.held,.int .i64 x.a8.aI,.list 2 x.a8.lists,.list 0 x.aH.held,.int .i64 x.aH.aI,.list 2 x.aH.lists,.list 0 x.aZ.held,.int .i64 x.aZ.aI,.list 2 x.aZ.lists]
def kT (b:By) (x:dM):By:=fM (a7 (gf b x.held) x.aI) x.lists
def qP (b:By) (x:bd):By:=kT (kT (kT (fM (a7 (a7 (cJ (cJ (a7 (a7 b x.at_) x.bN) x.ch) x.opened) x.bj) x.size) x.aS) x.a8) x.aH) x.aZ
def eB (x:dM):Nat:=x.held.length+27+dc x.lists
def KI (s:St D.E) (h p l:AV D.E):C dM:=az (aL D s 0 h) λh=>aP (cT p) λ_ p=>az (aL D s 2 l) λl=>.ret ⟨(h:By),p,(l:List dd)⟩
def uE:bh D where
 f:=87
 Y:=By×dM
 oM:=λargs s=>match args with
  | [a,b]=>az (aL D s 0 a) λl=>az (asAgg b) λcs=>match cs with
   | [h,p,q]=>az (KI s h p q) λx=>.ret ((l:By),x)
   | _=>.fail
  | _=>.fail
 pre:=λy=>y.1.length+eB y.2<=536870912
 args:=λy=>[.list 0 y.1,.agg (QnQ y.2)]
 heap:=λ_=>[]
 res:=λy=>.grow 0 (kT y.1 y.2) 0
 dy:=λ_=>[(0,.tok 0 5)]
 jY:=0
 oS:=1
def Qhv (_:uE.Y):cH D:=⟨[],[],[],[],1,[]⟩
def Qhw (y:uE.Y):Prop:=lI [qN,gb,XF] f87 uE Qhv y
def xS:bh D where
 f:=36
 Y:=By×bd
 oM:=λargs s=>match args with
  | [a,b]=>az (aL D s 0 a) λl=>az (asAgg b) λcs=>match cs with
   | [c,d,e,g,h,i,j,k,a2,a3,b1,m,n,c1,c2,c3]=>aP (cT c) λ_ c=>aP (cT d) λ_ d=>aP (zh e) λe _=>aP (zh g) λg _=>aP (cT h) λ_ h=>aP (cT i) λ_ i=>az (aL D s 2 j) λj=>
    az (KI s k a2 a3) λx=>az (KI s b1 m n) λy=>az (KI s c1 c2 c3) λz=>.ret ((l:By),⟨c,d,e,g,h,i,(j:List dd),x,y,z⟩)
   | _=>.fail
  | _=>.fail
 pre:=λy=>y.1.length+63+dc y.2.aS+eB y.2.a8+eB y.2.aH+eB y.2.aZ<=536870912
 args:=λy=>[.list 0 y.1,.agg (Qhu y.2)]
 heap:=λ_=>[]
 res:=λy=>.grow 0 (qP y.1 y.2) 0
 dy:=λ_=>[(0,.tok 0 5)]
 jY:=0
 oS:=1
def QbX (_:xS.Y):cH D:=⟨[],[],[],[],1,[]⟩
def Qhx (y:xS.Y):Prop:=lI [gb,ou,XF,uE] f36 xS QbX y
def G_ (y:Prod (List UInt8) dM):Prop:=let a:=gf y.1 (dM.held y.2);let q1:=a7 a (dM.aI y.2);(Iv (((List.length y.1:Nat)<=536870912)/\(List.length (dM.held y.2):Nat)<=536870912))/\aa [y.1,dM.held y.2] ((Iv ((List.length a:Nat)<=1073741824))/\aa [a] (aa [dM.aI y.2] ((Iv (((List.length q1:Nat)+(dc (dM.lists y.2)):Nat)<=1073741424))/\aa [q1] (aa [dM.lists y.2] (aa [dM.held y.2,dM.held y.2] (aa [dM.aI y.2,dM.aI y.2] (aa [dM.lists y.2,dM.lists y.2,dM.lists y.2] (((fM q1 (dM.lists y.2))=(kT y.1 y.2))/\True))))))))
def R7:∀y,G_ y=Qhw y:=λy=>by kernel_rfl
def Ha (y:Prod (List UInt8) bd):Prop:=let a:=a7 y.1 (bd.at_ y.2);let q1:=a7 a (bd.bN y.2);let b:=cJ q1 (bd.ch y.2);let c:=cJ b (bd.opened y.2);let d:=a7 c (bd.bj y.2);let e:=a7 d (bd.size y.2);let f:=fM e (bd.aS y.2);let g:=kT f (bd.a8 y.2);let h:=kT g (bd.aH y.2);(Iv ((List.length y.1:Nat)<=1073741824))/\aa [y.1] (aa [bd.at_ y.2] ((Iv ((List.length a:Nat)<=1073741824))/\aa [a] (aa [bd.bN y.2] ((Iv ((List.length q1:Nat)<=1073741824))/\aa [q1] (aa [bd.ch y.2] ((Iv ((List.length b:Nat)<=1073741824))/\aa [b] (aa [bd.opened y.2] (aa [bd.at_ y.2,bd.bN y.2,bd.bN y.2] (aa [bd.ch y.2,bd.ch y.2,bd.ch y.2,bd.opened y.2,bd.opened y.2,bd.opened y.2,bd.opened y.2] ((Iv ((List.length c:Nat)<=1073741824))/\aa [c] (aa [bd.bj y.2] ((Iv ((List.length d:Nat)<=1073741824))/\aa [d] (aa [bd.size y.2] ((Iv (((List.length e:Nat)+(dc (bd.aS y.2)):Nat)<=1073741424))/\aa [e] (aa [bd.aS y.2] (aa [bd.bj y.2,bd.size y.2,bd.size y.2] (aa [bd.aS y.2,bd.aS y.2,bd.aS y.2] ((Iv (((List.length f:Nat)+(eB (bd.a8 y.2)):Nat)<=536870912))/\aa [f,dM.held (bd.a8 y.2)] (aa [dM.aI (bd.a8 y.2)] (aa [dM.lists (bd.a8 y.2)] ((Iv (((List.length g:Nat)+(eB (bd.aH y.2)):Nat)<=536870912))/\aa [g,dM.held (bd.aH y.2)] (aa [dM.aI (bd.aH y.2)] (aa [dM.lists (bd.aH y.2)] ((Iv (((List.length h:Nat)+(eB (bd.aZ y.2)):Nat)<=536870912))/\aa [h,dM.held (bd.aZ y.2)] (aa [dM.aI (bd.aZ y.2)] (aa [dM.lists (bd.aZ y.2)] (aa [dM.held (bd.a8 y.2)] (aa [dM.aI (bd.a8 y.2)] (aa [dM.lists (bd.a8 y.2)] (aa [dM.held (bd.aH y.2)] (aa [dM.aI (bd.aH y.2)] (aa [dM.lists (bd.aH y.2)] (aa [dM.held (bd.aH y.2)] (aa [dM.aI (bd.aH y.2)] (aa [dM.lists (bd.aH y.2)] (aa [dM.held (bd.aZ y.2)] (aa [dM.aI (bd.aZ y.2)] (aa [dM.lists (bd.aZ y.2)] (aa [dM.held (bd.aZ y.2)] (aa [dM.aI (bd.aZ y.2)] (aa [dM.lists (bd.aZ y.2)] (aa [dM.held (bd.aZ y.2)] (aa [dM.aI (bd.aZ y.2)] (aa [dM.lists (bd.aZ y.2)] (((kT h (bd.aZ y.2))=(qP y.1 y.2))/\True)))))))))))))))))))))))))))))))))))))))))))))
def R8:∀y,Ha y=Qhx y:=λy=>by kernel_rfl
def tC (b s:By):(gf b s).length<=b.length+9+s.length:=by
 have:=bX b s.length;unfold gf;simp;omega
def tD (b:By) (l:List dd):(fM b l).length<=b.length+9+dc l:=by
 have:=tA b l l.length;rw[tB,ZaM] at this;exact this
def su (b:By) (x:dM):(kT b x).length<=b.length+eB x:=by
 have h1:=tC b x.held;have a:=bX (gf b x.held) x.aI;have c:=tD (a7 (gf b x.held) x.aI) x.lists;unfold kT eB;omega
def QnR (y:By×dM) (a:uE.pre y):G_ y:=by
 have h0:y.1.length+eB y.2<=536870912:=a;unfold eB at h0;have h1:=tC y.1 y.2.held;have b:=bX (gf y.1 y.2.held) y.2.aI;unfold G_;simp only[dw,Zai];exact⟨⟨ω,ω⟩,⟨ω⟩,⟨ω⟩,rfl⟩
def Qes:Ok uE:=nM (tab:=[qN,gb,XF]) (fn:=f87) (fI:=Qhv) (by simp;exact⟨GY,kQ,Qht⟩) (by kernel_rfl) (by kernel_rfl) (λ_=>by exact ZcY (by kernel_rfl)) λy a=>Eq.mp (R7 y) (QnR y a)
def Qhy (y:By×bd) (j:xS.pre y):Ha y:=by
 have h0:y.1.length+63+dc y.2.aS+eB y.2.a8+eB y.2.aH+eB y.2.aZ<=536870912:=j;have h1:=bX y.1 y.2.at_;have g:=bX (a7 y.1 y.2.at_) y.2.bN;generalize b:a7 (a7 y.1 y.2.at_) y.2.bN=e at g;have k:=gM e y.2.ch;have h:=gM (cJ e y.2.ch) y.2.opened;generalize c:cJ (cJ e y.2.ch) y.2.opened=f at h;have l:=bX f y.2.bj;have i:=bX (a7 f y.2.bj) y.2.size;generalize d:a7 (a7 f y.2.bj) y.2.size=a at i;have m:=tD a y.2.aS;have n:=su (fM a y.2.aS) y.2.a8;have o:=su (kT (fM a y.2.aS) y.2.a8) y.2.aH;unfold Ha;simp only[dw,Zai,b,c,d];refine⟨⟨ω⟩,⟨ω⟩,⟨ω⟩,⟨ω⟩,⟨ω⟩,⟨ω⟩,⟨ω⟩,⟨?_⟩,⟨?_⟩,⟨?_⟩,?_⟩
 ·show(fM a y.2.aS).length+eB y.2.a8<=536870912;omega
 ·show(kT (fM a y.2.aS) y.2.a8).length+eB y.2.aH<=536870912;omega
 ·show(kT (kT (fM a y.2.aS) y.2.a8) y.2.aH).length+eB y.2.aZ<=536870912;omega
 ·unfold qP;rw[b,c,d]
def Qet:Ok xS:=nM (tab:=[gb,ou,XF,uE]) (fn:=f36) (fI:=QbX) (by simp;exact⟨kQ,Cm,Qht,Qes⟩) (by kernel_rfl) (by kernel_rfl) (λ_=>by exact ZcY (by kernel_rfl)) λy a=>Eq.mp (R8 y) (Qhy y a)
def cjO (c:cn) (j:Nat):Int:=match j with
 | 0=>c.c0 | 1=>c.c1 | 2=>c.c2 | 3=>c.c3 | 4=>c.c4 | 5=>c.c5 | 6=>c.c6 | 7=>c.c7 | 8=>c.c8 | _=>c.c9
def uF:bh D where
 f:=143
 Y:=By×cn
 oM:=Qhi
 pre:=λy=>y.1.length<=1073741724
 args:=λy=>[.list 0 y.1,.agg (dj 11 y.2)]
 heap:=λ_=>[]
 res:=λy=>.grow 0 (kR y.1 y.2) 0
 dy:=λ_=>[(0,.tok 0 5)]
 jY:=0
 oS:=1
def mM (b:By) (c:cn) (i:Nat):By:=((bw c).take i).foldl (λb x=>a7 b (sr x)) b
def l9 (y:uF.Y) (j:Nat):List (Nat×iH D):=
  [(841+j*590295810358705651712,⟨Unit,[3,5],λ_=>[(0,.list 0 (mM y.1 y.2 j)),(6,.int .i64 (imax (cjO y.2 j) (-1)))],[0],λ_=>[],1,λ_=>True,λ_=>0⟩),
   (1683+j*1180591620717411303424,⟨Unit,[0,3,5],λ_=>[(6,.int .i64 (cM (imax (cjO y.2 j) (-1)) 9223372036854775806))],[0],λ_=>[],1,λ_=>True,λ_=>0⟩)]
def QbY (y:uF.Y):cH D:=⟨[(0,.fact 1)],[],[],l9 y 0++l9 y 1++l9 y 2++l9 y 3++l9 y 4++l9 y 5++l9 y 6++l9 y 7++l9 y 8++l9 y 9,11,[]⟩
def Qhz (y:uF.Y):Prop:=lI [iz] f143 uF QbY y
def Cn:bh D:={ XF with f:=90,res:=λy=>.list 0 (fM y.1 y.2),dy:=λ_=>[],oS:=0 }
def F4 (l:List dd) (i:Nat):dd:=gt fu l i
def Hb (b:By) (t:dd) (k:Nat):By:=ov (kR (cJ b t.done) (fV t)) t.aJ k
def QhA (y:Cn.Y):cH D:=⟨[],[],[(58,⟨Nat,[1],λi=>[(0,.list 0 (gS y.1 y.2 i)),(5,Qvo i)],[],λ_=>[],0,λi=>i<=y.2.length,λi=>y.2.length-i⟩)],[],1,
 [(14926,⟨Nat,λi=>⟨Nat,[1,5],λk=>[(0,.list 0 (Hb (gS y.1 y.2 i) (F4 y.2 i) k)),(6,Qvo k)],[],λ_=>[],0,λk=>k<=(F4 y.2 i).aJ.length,λk=>(F4 y.2 i).aJ.length-k⟩,none⟩)]⟩
def QnS (y:Cn.Y):Prop:=lI [iz,kP,uF] f90 Cn QhA y
def R9 (y:Prod (List UInt8) cn):Prop:=let k:=mM y.1 y.2 4;let q1:=mM y.1 y.2 9;let l:=mM y.1 y.2 8;let m:=mM y.1 y.2 7;let n:=mM y.1 y.2 6;let o:=mM y.1 y.2 2;let p:=mM y.1 y.2 3;let q:=mM y.1 y.2 1;let r:=mM y.1 y.2 0;let O:=imax (cn.c4 y.2) (Neg.neg (1:Int));let b:=imax (cn.c6 y.2) (Neg.neg (1:Int));let c:=imax (cn.c8 y.2) (Neg.neg (1:Int));let P:=aw (cn.c7 y.2) (Neg.neg (1:Int));let d:=imax (cn.c5 y.2) (Neg.neg (1:Int));let a:=mM y.1 y.2 (5:Nat);let Q:=aw (cn.c6 y.2) (Neg.neg (1:Int));let e:=imax (cn.c7 y.2) (Neg.neg (1:Int));let f:=imax (cn.c9 y.2) (Neg.neg (1:Int));let R:=aw (cn.c5 y.2) (Neg.neg (1:Int));let g:=imax (cn.c3 y.2) (Neg.neg (1:Int));let S:=aw (cn.c9 y.2) (Neg.neg (1:Int));let T:=aw (cn.c4 y.2) (Neg.neg (1:Int));let h:=imax (cn.c2 y.2) (Neg.neg (1:Int));let U:=aw (cn.c2 y.2) (Neg.neg (1:Int));let V:=aw (cn.c3 y.2) (Neg.neg (1:Int));let i:=imax (cn.c1 y.2) (Neg.neg (1:Int));let W:=aw (cn.c0 y.2) (Neg.neg (1:Int));let X:=aw (cn.c8 y.2) (Neg.neg (1:Int));let j:=imax (cn.c0 y.2) (Neg.neg (1:Int));let Y:=aw (cn.c1 y.2) (Neg.neg (1:Int));let s:=cM O (9223372036854775806:Int);let t:=cM g (9223372036854775806:Int);let u:=cM f (9223372036854775806:Int);let Z:=aB b (9223372036854775807:Int);let v:=cM d (9223372036854775806:Int);let q35:=aB g (9223372036854775807:Int);let w:=cM h (9223372036854775806:Int);let q37:=aB f (9223372036854775807:Int);let A:=cM c (9223372036854775806:Int);let q39:=aB e (9223372036854775807:Int);let q40:=aB h (9223372036854775807:Int);let B:=cM i (9223372036854775806:Int);let q42:=aB d (9223372036854775807:Int);let q43:=aB c (9223372036854775807:Int);let C:=cM b (9223372036854775806:Int);let q45:=aB i (9223372036854775807:Int);let D:=cM j (9223372036854775806:Int);let q47:=aB O (9223372036854775807:Int);let E:=cM e (9223372036854775806:Int);let q49:=aB j (9223372036854775807:Int);let q50:=ay .i64 u (1:Int);let F:=ay .i64 t (1:Int);let G:=ay .i64 E (1:Int);let H:=ay .i64 A (1:Int);let I:=ay .i64 D (1:Int);let J:=ay .i64 v (1:Int);let K:=ay .i64 C (1:Int);let L:=ay .i64 B (1:Int);let M:=ay .i64 s (1:Int);let N:=ay .i64 w (1:Int);(((fK .i64 (cn.c0 y.2)))/\((fK .i64 (cn.c1 y.2)))/\((fK .i64 (cn.c2 y.2)))/\((fK .i64 (cn.c3 y.2)))/\((fK .i64 (cn.c4 y.2)))/\((fK .i64 (cn.c5 y.2)))/\((fK .i64 (cn.c6 y.2)))/\((fK .i64 (cn.c7 y.2)))/\((fK .i64 (cn.c8 y.2)))/\((fK .i64 (cn.c9 y.2)))/\True)->(((W)->∃z:Unit,(y.1=r)/\((Neg.neg (1:Int))=j)/\aa (bw y.2) ((Iv True)))/\((W=false)->∃z:Unit,(y.1=r)/\((cn.c0 y.2)=j)/\aa (bw y.2) ((Iv True))))/\(∀x:Unit,(Iv True)->(((q49)->∃z:Unit,aa [r] (((cx .i64 j (1:Int))=D)/\aa (bw y.2) ((Iv True))))/\((q49=false)->∃z:Unit,aa [r] ((j=D)/\aa (bw y.2) ((Iv True)))))/\(∀x1:Unit,(Iv True)->(Iv ((List.length r:Nat)<=1073741824))/\aa [r] (aa [I] ((((Y)->∃z:Unit,((a7 r I)=q)/\((Neg.neg (1:Int))=i)/\aa (bw y.2) ((Iv True)))/\((Y=false)->∃z:Unit,((a7 r I)=q)/\((cn.c1 y.2)=i)/\aa (bw y.2) ((Iv True))))/\(∀x2:Unit,(Iv True)->(((q45)->∃z:Unit,aa [q] (((cx .i64 i (1:Int))=B)/\aa (bw y.2) ((Iv True))))/\((q45=false)->∃z:Unit,aa [q] ((i=B)/\aa (bw y.2) ((Iv True)))))/\(∀x3:Unit,(Iv True)->(Iv ((List.length q:Nat)<=1073741824))/\aa [q] (aa [L] ((((U)->∃z:Unit,((a7 q L)=o)/\((Neg.neg (1:Int))=h)/\aa (bw y.2) ((Iv True)))/\((U=false)->∃z:Unit,((a7 q L)=o)/\((cn.c2 y.2)=h)/\aa (bw y.2) ((Iv True))))/\(∀x4:Unit,(Iv True)->(((q40)->∃z:Unit,aa [o] (((cx .i64 h (1:Int))=w)/\aa (bw y.2) ((Iv True))))/\((q40=false)->∃z:Unit,aa [o] ((h=w)/\aa (bw y.2) ((Iv True)))))/\(∀x5:Unit,(Iv True)->(Iv ((List.length o:Nat)<=1073741824))/\aa [o] (aa [N] ((((V)->∃z:Unit,((a7 o N)=p)/\((Neg.neg (1:Int))=g)/\aa (bw y.2) ((Iv True)))/\((V=false)->∃z:Unit,((a7 o N)=p)/\((cn.c3 y.2)=g)/\aa (bw y.2) ((Iv True))))/\(∀x6:Unit,(Iv True)->(((q35)->∃z:Unit,aa [p] (((cx .i64 g (1:Int))=t)/\aa (bw y.2) ((Iv True))))/\((q35=false)->∃z:Unit,aa [p] ((g=t)/\aa (bw y.2) ((Iv True)))))/\(∀x7:Unit,(Iv True)->(Iv ((List.length p:Nat)<=1073741824))/\aa [p] (aa [F] ((((T)->∃z:Unit,((a7 p F)=k)/\((Neg.neg (1:Int))=O)/\aa (bw y.2) ((Iv True)))/\((T=false)->∃z:Unit,((a7 p F)=k)/\((cn.c4 y.2)=O)/\aa (bw y.2) ((Iv True))))/\(∀x8:Unit,(Iv True)->(((q47)->∃z:Unit,aa [k] (((cx .i64 O (1:Int))=s)/\aa (bw y.2) ((Iv True))))/\((q47=false)->∃z:Unit,aa [k] ((O=s)/\aa (bw y.2) ((Iv True)))))/\(∀x9:Unit,(Iv True)->(Iv ((List.length k:Nat)<=1073741824))/\aa [k] (aa [M] ((((R)->∃z:Unit,((a7 k M)=a)/\((Neg.neg (1:Int))=d)/\aa (bw y.2) ((Iv True)))/\((R=false)->∃z:Unit,((a7 k M)=a)/\((cn.c5 y.2)=d)/\aa (bw y.2) ((Iv True))))/\(∀x10:Unit,(Iv True)->(((q42)->∃z:Unit,aa [a] (((cx .i64 d (1:Int))=v)/\aa (bw y.2) ((Iv True))))/\((q42=false)->∃z:Unit,aa [a] ((d=v)/\aa (bw y.2) ((Iv True)))))/\(∀x11:Unit,(Iv True)->(Iv ((List.length a:Nat)<=1073741824))/\aa [a] (aa [J] ((((Q)->∃z:Unit,((a7 a J)=n)/\((Neg.neg (1:Int))=b)/\aa (bw y.2) ((Iv True)))/\((Q=false)->∃z:Unit,((a7 a J)=n)/\((cn.c6 y.2)=b)/\aa (bw y.2) ((Iv True))))/\(∀x12:Unit,(Iv True)->(((Z)->∃z:Unit,aa [n] (((cx .i64 b (1:Int))=C)/\aa (bw y.2) ((Iv True))))/\((Z=false)->∃z:Unit,aa [n] ((b=C)/\aa (bw y.2) ((Iv True)))))/\(∀x13:Unit,(Iv True)->(Iv ((List.length n:Nat)<=1073741824))/\aa [n] (aa [K] ((((P)->∃z:Unit,((a7 n K)=m)/\((Neg.neg (1:Int))=e)/\aa (bw y.2) ((Iv True)))/\((P=false)->∃z:Unit,((a7 n K)=m)/\((cn.c7 y.2)=e)/\aa (bw y.2) ((Iv True))))/\(∀x14:Unit,(Iv True)->(((q39)->∃z:Unit,aa [m] (((cx .i64 e (1:Int))=E)/\aa (bw y.2) ((Iv True))))/\((q39=false)->∃z:Unit,aa [m] ((e=E)/\aa (bw y.2) ((Iv True)))))/\(∀x15:Unit,(Iv True)->(Iv ((List.length m:Nat)<=1073741824))/\aa [m] (aa [G] ((((X)->∃z:Unit,((a7 m G)=l)/\((Neg.neg (1:Int))=c)/\aa (bw y.2) ((Iv True)))/\((X=false)->∃z:Unit,((a7 m G)=l)/\((cn.c8 y.2)=c)/\aa (bw y.2) ((Iv True))))/\(∀x16:Unit,(Iv True)->(((q43)->∃z:Unit,aa [l] (((cx .i64 c (1:Int))=A)/\aa (bw y.2) ((Iv True))))/\((q43=false)->∃z:Unit,aa [l] ((c=A)/\aa (bw y.2) ((Iv True)))))/\(∀x17:Unit,(Iv True)->(Iv ((List.length l:Nat)<=1073741824))/\aa [l] (aa [H] ((((S)->∃z:Unit,((a7 l H)=q1)/\((Neg.neg (1:Int))=f)/\aa (bw y.2) ((Iv True)))/\((S=false)->∃z:Unit,((a7 l H)=q1)/\((cn.c9 y.2)=f)/\aa (bw y.2) ((Iv True))))/\(∀x18:Unit,(Iv True)->(((q37)->∃z:Unit,aa [q1] (((cx .i64 f (1:Int))=u)/\aa (bw y.2) ((Iv True))))/\((q37=false)->∃z:Unit,aa [q1] ((f=u)/\aa (bw y.2) ((Iv True)))))/\(∀x19:Unit,(Iv True)->(Iv ((List.length q1:Nat)<=1073741824))/\aa [q1] (aa [q50] (((a7 q1 q50)=(kR y.1 y.2))/\True))))))))))))))))))))))))))))))))))))))))
def R':∀y,R9 y=Qhz y:=λy=>by kernel_rfl
def R_ (y:Prod (List UInt8) (List dd)):Prop:=let h:=List.length y.2;(Iv ((List.length y.1:Nat)<=1073741824))/\aa [y.1] (aa [ag y.2] ((∃z:Nat,aa [y.2] (((a7 y.1 (ag y.2))=(gS y.1 y.2 z))/\((0:Int)=((z:Nat):Int))/\(Iv ((z:Nat)<=h))))/\(∀x:Nat,let q1:=aw ((x:Nat):Int) (ag y.2);let j:=gS y.1 y.2 x;let c:=gN fu y.2 x;let l:=ag (dd.aJ c);let m:=cJ j (dd.done c);let n:=kR m (fV c);(Iv ((x:Nat)<=h))->((q1)->((aG (0:Int) ((x:Nat):Int)))/\(q1)/\(Iv ((List.length j:Nat)<=1073741824))/\aa [j] (aa [dd.done c] (((aG (0:Int) ((x:Nat):Int)))/\(q1)/\(Iv ((List.length m:Nat)<=1073741724))/\aa [m] (aa (bw (fV c)) (aa [dd.done c] (aa (bw (fV c)++bw (fV c)) (((aG (0:Int) ((x:Nat):Int)))/\(q1)/\(Iv ((List.length n:Nat)<=1073741824))/\aa [n] (aa [l] (∃z:Nat,let k:=F4 y.2 z;let i:=List.length (dd.aJ k);let o:=gS y.1 y.2 z;(∃b:Nat,aa [y.2] (aa [((x:Nat):Int)] (((a7 n l)=(Hb o k b))/\((0:Int)=((b:Nat):Int))/\(Iv ((b:Nat)<=i)))))/\(∀f:Nat,let d:=Hb o k f;let e:=aw ((f:Nat):Int) l;let a:=gN dT0 (dd.aJ c) f;let g:=a7 d (aX.pc a);(Iv ((f:Nat)<=i))->((aG (0:Int) ((x:Nat):Int)))/\(q1)/\((e)->((aG (0:Int) ((x:Nat):Int)))/\(q1)/\((aG (0:Int) ((f:Nat):Int)))/\(e)/\(Iv ((List.length d:Nat)<=1073741824))/\aa [d] (aa [aX.pc a] (((aG (0:Int) ((x:Nat):Int)))/\(q1)/\((aG (0:Int) ((f:Nat):Int)))/\(e)/\(Iv ((List.length g:Nat)<=1073741724))/\aa [g] (aa (bw (kS a)) (aa [dd.aJ c] (aa [aX.pc a] (aa [dd.aJ c,dd.aJ c] (aa (bw (kS a)++bw (kS a)) (∃b:Nat,aa [y.2] (aa [((x:Nat):Int)] (((kR g (kS a))=(Hb o k b))/\((ay .i64 ((f:Nat):Int) (1:Int))=((b:Nat):Int))/\(Iv (((b:Nat)<=i)/\((i:Nat) -b:Nat)<((i:Nat) -f))))))))))))))/\((e=false)->∃b:Nat,aa [y.2] ((d=(gS y.1 y.2 b))/\((ay .i64 ((x:Nat):Int) (1:Int))=((b:Nat):Int))/\(Iv (((b:Nat)<=h)/\((h:Nat) -b:Nat)<((h:Nat) -x)))))))))))))))/\((q1=false)->(j=(fM y.1 y.2))/\True))))
def YB:∀y,R_ y=QnS y:=λy=>by kernel_rfl
theorem Sa (l:List dd):l.length<=dc l:=by
 unfold dc
 induction l with
 | nil=>simp
 | cons t l a=>
  simp only[Zae,Zbl,Zco];have:1<=ph t:=by unfold ph;omega
  omega
def Nr (b:By) (c:cn) (i:Nat):(mM b c i).length<=b.length+9*i:=by
 unfold mM;have key:∀(m:List Int) (c:By),(m.foldl (λb x=>a7 b (sr x)) c).length<=c.length+9*m.length:=by
  intro m
  induction m with
  | nil=>intro c;simp
  | cons t m d=>
   intro c;have h1:=d (a7 c (sr t));have a:=bX c (sr t);simp only[Zb2,Zae];omega
 have h1:=key ((bw c).take i) b;have a:((bw c).take i).length<=i:=by simp;omega
 omega
def QhB (h:aw c (Neg.neg (1:Int))):Neg.neg (1:Int)=imax c (Neg.neg (1:Int)):=by rw[dA] at h;unfold imax;split<;>omega
def QhC (h:aw c (Neg.neg (1:Int))=false):c=imax c (Neg.neg (1:Int)):=by rw[hU] at h;unfold imax;split<;>omega
def QhD (h:aB (imax c (Neg.neg (1:Int))) (9223372036854775807:Int)):cx IntKind.i64 (imax c (Neg.neg (1:Int))) (1:Int)=cM (imax c (Neg.neg (1:Int))) (9223372036854775806:Int):=by
 rw[oo] at h;rw[h,jQ ω ω];unfold cM;split<;>omega
def QhE (h0:fK IntKind.i64 c) (h:aB (imax c (Neg.neg (1:Int))) (9223372036854775807:Int)=false):imax c (Neg.neg (1:Int))=cM (imax c (Neg.neg (1:Int))) (9223372036854775806:Int):=by
 rw[oq] at h;rw[sq] at h0;unfold cM;split
 ·exfalso;unfold imax at*
  split at*<;>omega
 ·rfl
def QhF (y:By×cn) (a:uF.pre y):R9 y:=by
 have h1:y.1.length<=1073741724:=a;intro⟨i0,i1,i2,i3,i4,i5,i6,i7,i8,i9,_⟩;have hl:=Nr y.1 y.2;simp only[dw,QbU,Zai]
 repeat' first
  | exact⟨trivial⟩
  | exact⟨Zav (hl _) ω⟩
  | exact rfl
  | (intro _)
  | (refine Exists.intro () ?_)
  | (refine And.intro ?_ ?_)
  | exact QhB (by assumption)
  | exact QhC (by assumption)
  | exact QhD (by assumption)
  | exact QhE (by assumption) (by assumption)
def Qeu:Ok uF:=nM (tab:=[iz]) (fn:=f143) (fI:=QbY) (by simp;exact nP) (by kernel_rfl) (by kernel_rfl) (λ_=>by exact ZcY (by kernel_rfl)) λy a=>Eq.mp (R' y) (QhF y a)
def Sb (b:By) (t:dd) (k:Nat) (hk:k<=t.aJ.length):(Hb b t k).length<=b.length+108+99*k:=by
 have h1:=gM b t.done;have a:=mK (b:=cJ b t.done) (fV t) h1;have c:=tx (kR (cJ b t.done) (fV t)) t.aJ k hk;unfold Hb;omega
def QnT (y:By×List dd) (o:Cn.pre y):R_ y:=by
 have h1:y.1.length+dc y.2<=1073741424:=o;have t:=Sa y.2;unfold R_;simp only[dw,Qg8,Zai];refine⟨⟨ω⟩,⟨0,rfl,rfl,⟨Zaj _⟩⟩,λx n=>⟨λa=>?_,λa=>?_⟩⟩
 ·have m:=a;rw[dA,au] at m;have d:x<y.2.length:=ω;have hz:aG (0:Int) (x:Int):=fm.2 ω;have p:=tA y.1 y.2 x;have j:=xQ y.2 d;have e:F4 y.2 x=y.2[x]:=oX d;rw[<-e] at j;have e2:gt fu y.2 x=F4 y.2 x:=rfl;simp only[e2];have l:=gM (gS y.1 y.2 x) (F4 y.2 x).done;have q:=mK (b:=cJ (gS y.1 y.2 x) (F4 y.2 x).done) (fV (F4 y.2 x)) l;have r:ph (F4 y.2 x)=108+99*(F4 y.2 x).aJ.length:=rfl;refine⟨hz,a,⟨ω⟩,hz,a,⟨ω⟩,hz,a,⟨ω⟩,x,⟨0,rfl,rfl,⟨Zaj _⟩⟩,λk hk=>⟨hz,a,λf=>?_,λf=>?_⟩⟩
  ·have h:=f;rw[dA,au] at h;have c:k<(F4 y.2 x).aJ.length:=ω;have g:aG (0:Int) (k:Int):=fm.2 ω;have s:=Sb (gS y.1 y.2 x) (F4 y.2 x) k (Zcx c);have i:=bX (Hb (gS y.1 y.2 x) (F4 y.2 x) k) (aX.pc (gt dT0 (F4 y.2 x).aJ k));refine⟨hz,a,g,f,⟨ω⟩,hz,a,g,f,⟨ω⟩,k+1,xO _ c,?_,⟨ω,ω⟩⟩;rw[ba ω ω];rfl
  ·rw[hU,au] at f;have c:k=(F4 y.2 x).aJ.length:=by have:=hk.out;omega
   refine⟨x+1,?_,?_,⟨ω,ω⟩⟩
   ·rw[c];refine Eq.trans ?_ (xR fu d);exact tz _ _
   ·rw[ba ω ω];rfl
 ·rw[hU,au] at a;have:x=y.2.length:=by have:=n.out;omega
  rw[this];exact tB _ _
def QbZ:Ok Cn:=nM (tab:=[iz,kP,uF]) (fn:=f90) (fI:=QhA) (by simp;exact⟨nP,vX,Qeu⟩) (by kernel_rfl) (by kernel_rfl) (λ_=>by exact ZcY (by kernel_rfl)) λy a=>Eq.mp (YB y) (QnT y a)
def xT:bh D:={ uE with f:=91,res:=λy=>.list 0 (kT y.1 y.2),dy:=λ_=>[],oS:=0 }
def Qb0 (_:xT.Y):cH D:=dY ()
def QhG (y:xT.Y):Prop:=lI [pf,iz,Cn] f91 xT Qb0 y
def tE:bh D:={ xS with f:=40,res:=λy=>.list 0 (qP y.1 y.2),dy:=λ_=>[],oS:=0 }
def Sc (_:tE.Y):cH D:=dY ()
def Qev (y:tE.Y):Prop:=lI [iz,kP,Cn,xT] f40 tE Sc y
def Hc (y:Prod (List UInt8) dM):Prop:=let a:=gf y.1 (dM.held y.2);let q1:=a7 a (dM.aI y.2);(Iv (((List.length y.1:Nat)<=536870912)/\(List.length (dM.held y.2):Nat)<=536870912))/\aa [y.1,dM.held y.2] ((Iv ((List.length a:Nat)<=1073741824))/\aa [a] (aa [dM.aI y.2] ((Iv (((List.length q1:Nat)+(dc (dM.lists y.2)):Nat)<=1073741424))/\aa [q1] (aa [dM.lists y.2] (aa [dM.held y.2,dM.held y.2] (aa [dM.aI y.2,dM.aI y.2] (aa [dM.lists y.2,dM.lists y.2,dM.lists y.2] (((fM q1 (dM.lists y.2))=(kT y.1 y.2))/\True))))))))
def Sd:∀y,Hc y=QhG y:=λy=>by kernel_rfl
def Co (y:Prod (List UInt8) bd):Prop:=let a:=a7 y.1 (bd.at_ y.2);let q1:=a7 a (bd.bN y.2);let b:=cJ q1 (bd.ch y.2);let c:=cJ b (bd.opened y.2);let d:=a7 c (bd.bj y.2);let e:=a7 d (bd.size y.2);let f:=fM e (bd.aS y.2);let g:=kT f (bd.a8 y.2);let h:=kT g (bd.aH y.2);(Iv ((List.length y.1:Nat)<=1073741824))/\aa [y.1] (aa [bd.at_ y.2] ((Iv ((List.length a:Nat)<=1073741824))/\aa [a] (aa [bd.bN y.2] ((Iv ((List.length q1:Nat)<=1073741824))/\aa [q1] (aa [bd.ch y.2] (aa [bd.at_ y.2,bd.bN y.2,bd.bN y.2] (aa [bd.ch y.2,bd.ch y.2,bd.ch y.2] ((Iv ((List.length b:Nat)<=1073741824))/\aa [b] (aa [bd.opened y.2] ((Iv ((List.length c:Nat)<=1073741824))/\aa [c] (aa [bd.bj y.2] ((Iv ((List.length d:Nat)<=1073741824))/\aa [d] (aa [bd.size y.2] (aa [bd.opened y.2] (aa [bd.bj y.2,bd.bj y.2,bd.size y.2,bd.size y.2,bd.size y.2] ((Iv (((List.length e:Nat)+(dc (bd.aS y.2)):Nat)<=1073741424))/\aa [e] (aa [bd.aS y.2] ((Iv (((List.length f:Nat)+(eB (bd.a8 y.2)):Nat)<=536870912))/\aa [f,dM.held (bd.a8 y.2)] (aa [dM.aI (bd.a8 y.2)] (aa [dM.lists (bd.a8 y.2)] ((Iv (((List.length g:Nat)+(eB (bd.aH y.2)):Nat)<=536870912))/\aa [g,dM.held (bd.aH y.2)] (aa [dM.aI (bd.aH y.2)] (aa [dM.lists (bd.aH y.2)] ((Iv (((List.length h:Nat)+(eB (bd.aZ y.2)):Nat)<=536870912))/\aa [h,dM.held (bd.aZ y.2)] (aa [dM.aI (bd.aZ y.2)] (aa [dM.lists (bd.aZ y.2)] (aa [dM.held (bd.a8 y.2)] (aa [dM.aI (bd.a8 y.2)] (aa [dM.lists (bd.a8 y.2)] (aa [dM.held (bd.aH y.2)] (aa [dM.aI (bd.aH y.2)] (aa [dM.lists (bd.aH y.2)] (aa [dM.held (bd.aH y.2)] (aa [dM.aI (bd.aH y.2)] (aa [dM.lists (bd.aH y.2)] (aa [dM.held (bd.aZ y.2)] (aa [dM.aI (bd.aZ y.2)] (aa [dM.lists (bd.aZ y.2)] (aa [dM.held (bd.aZ y.2)] (aa [dM.aI (bd.aZ y.2)] (aa [dM.lists (bd.aZ y.2)] (aa [dM.held (bd.aZ y.2)] (aa [dM.aI (bd.aZ y.2)] (aa [dM.lists (bd.aZ y.2)] (((kT h (bd.aZ y.2))=(qP y.1 y.2))/\True)))))))))))))))))))))))))))))))))))))))))))))
def Ns:∀y,Co y=Qev y:=λy=>by kernel_rfl
def QhH (y:By×dM) (a:xT.pre y):Hc y:=by
 have h0:y.1.length+eB y.2<=536870912:=a;unfold eB at h0;have h1:=tC y.1 y.2.held;have b:=bX (gf y.1 y.2.held) y.2.aI;unfold Hc;simp only[dw,Zai];exact⟨⟨ω,ω⟩,⟨ω⟩,⟨ω⟩,rfl⟩
def Qew:Ok xT:=nM (tab:=[pf,iz,Cn]) (fn:=f91) (fI:=Qb0) (by simp;exact⟨KH,nP,QbZ⟩) (by kernel_rfl) (by kernel_rfl) (λ_=>by exact ZcY (by kernel_rfl)) λy a=>Eq.mp (Sd y) (QhH y a)
def Qex (y:By×bd) (j:tE.pre y):Co y:=by
 have h0:y.1.length+63+dc y.2.aS+eB y.2.a8+eB y.2.aH+eB y.2.aZ<=536870912:=j;have h1:=bX y.1 y.2.at_;have g:=bX (a7 y.1 y.2.at_) y.2.bN;generalize b:a7 (a7 y.1 y.2.at_) y.2.bN=e at g;have k:=gM e y.2.ch;have h:=gM (cJ e y.2.ch) y.2.opened;generalize c:cJ (cJ e y.2.ch) y.2.opened=f at h;have l:=bX f y.2.bj;have i:=bX (a7 f y.2.bj) y.2.size;generalize d:a7 (a7 f y.2.bj) y.2.size=a at i;have m:=tD a y.2.aS;have n:=su (fM a y.2.aS) y.2.a8;have o:=su (kT (fM a y.2.aS) y.2.a8) y.2.aH;unfold Co;simp only[dw,Zai,b,c,d];refine⟨⟨ω⟩,⟨ω⟩,⟨ω⟩,⟨ω⟩,⟨ω⟩,⟨ω⟩,⟨ω⟩,⟨?_⟩,⟨?_⟩,⟨?_⟩,?_⟩
 ·show(fM a y.2.aS).length+eB y.2.a8<=536870912;omega
 ·show(kT (fM a y.2.aS) y.2.a8).length+eB y.2.aH<=536870912;omega
 ·show(kT (kT (fM a y.2.aS) y.2.a8) y.2.aH).length+eB y.2.aZ<=536870912;omega
 ·unfold qP;rw[b,c,d]
def YC:Ok tE:=nM (tab:=[iz,kP,Cn,xT]) (fn:=f40) (fI:=Sc) (by simp;exact⟨nP,vX,QbZ,Qew⟩) (by kernel_rfl) (by kernel_rfl) (λ_=>by exact ZcY (by kernel_rfl)) λy a=>Eq.mp (Ns y) (Qex y a)
end
end sx
namespace sx
open Go Go.RowKit
variable {k:IntKind} {x:Int} {m:Nat}
def YD (k:IntKind):s9 k<(uT k:Int):=by cases k<;>decide
theorem Se (k:IntKind):De k<=0:=by cases k<;>decide
def vY (h:(m:Int)<=s9 k):Dk k (m:Int)=m:=by
 have:=YD k;show Nat.mod m (uT k)=m
 exact Zdr ω
theorem Em (h:(m:Int)<=s9 k):k.wrap (m:Int)=m:=dG (cL.2 ⟨by grind [Se],h⟩)
def KJ {n:Nat} (a:(m:Int)<=s9 k) (b:((2 ^ n-1:Nat):Int)<=s9 k):lF k (m:Int) ((2 ^ n-1:Nat):Int)=((m % 2 ^ n:Nat):Int):=by
 unfold lF;rw[vY a,vY b];have e:Nat.land m (2 ^ n-1)=m % 2 ^ n:=Nat.and_two_pow_sub_one_eq_mod m n;rw[e];exact Em (m:=m % 2 ^ n) ω
def Sf (h0:0<=x) (h1:x<=s9 k):lF k x 63=x % 64:=by
 obtain⟨m,rfl⟩:=Zau h0;exact(KJ (n:=6) h1 (by cases k<;>decide)).trans (by simp)
def Sg (h0:0<=x) (h1:x<=s9 k):lF k x 31=x % 32:=by
 obtain⟨m,rfl⟩:=Zau h0;exact(KJ (n:=5) h1 (by cases k<;>decide)).trans (by simp)
def Sh (h0:0<=x) (h1:x<=s9 k):lF k x 15=x % 16:=by
 obtain⟨m,rfl⟩:=Zau h0;exact(KJ (n:=4) h1 (by cases k<;>decide)).trans (by simp)
def Qb1 (h0:0<=x) (h1:x<=s9 k):lF k x 7=x % 8:=by
 obtain⟨m,rfl⟩:=Zau h0;exact(KJ (n:=3) h1 (by cases k<;>decide)).trans (by simp)
def QhI {a b n:Nat} (c:b<2 ^ n) (h:((2 ^ n*a+b:Nat):Int)<=s9 k):FZ k ((2 ^ n*a:Nat):Int) (b:Int)=((2 ^ n*a+b:Nat):Int):=by
 unfold FZ;rw[vY ω,vY ω];have e:Nat.lor (2 ^ n*a) b=2 ^ n*a+b:=(Nat.two_pow_add_eq_or_of_lt c a).symm;rw[e];exact Em h
def Qb2 (a:m<=k.bits) (h0:0<=x) (h1:x*2 ^ m<=s9 k):oO k x (m:Int)=x*2 ^ m:=by
 unfold oO;rw[Zad,Zbj a];exact dG (cL.2 ⟨by have:=Se k;have:=Int.mul_nonneg h0 (show(0:Int)<=2 ^ m from ZdZ (Int.pow_pos (by decide)));omega,h1⟩)
theorem six {b:Int} (h0:0<=x) (h1:x<33554432) (d:0<=b) (b1:b<64):FZ .i32 (oO .i32 x 6) b=x*64+b:=by
 have e:oO .i32 x ((6:Nat):Int)=x*2 ^ 6:=Qb2 (by decide) h0 (by show x*2 ^ 6<=2147483647;omega);rw[show(6:Int)=((6:Nat):Int) from rfl,e];obtain⟨m,rfl⟩:=Zau h0;obtain⟨c,rfl⟩:=Zau d;have:=QhI (k:=.i32) (a:=m) (b:=c) (n:=6) ω (by show _<=(2147483647:Int);omega);grind
def vZ (h0:De k<=x) (h1:x<=s9 k):jP k x=x:=dG (cL.2 ⟨h0,h1⟩)
attribute [grind=] ba jQ xK au aT ib dw QbO pd
@[grind=] theorem QuI (a b:Int):aw a b=decide (a<b):=rfl
@[grind=] theorem QhJ (a b:Int):aG a b=decide (a<=b):=rfl
@[grind=] theorem uG (a b:Int):aB a b=decide (a=b):=rfl
@[grind=] theorem QnU (a:Int) (n:Nat):bJ a n=decide (a*n<=140737488355328):=rfl
@[grind=] theorem dq {α:Type} (d:α) (l:List α) (n:Nat):gt d l n=l.getD n d:=rfl
@[grind=] theorem QuJ (a b:By):seq a b=decide (a=b):=rfl
@[grind=] theorem kU (p:Prop):Iv p=p:=propext ⟨λh=>h.out,λh=>⟨h⟩⟩
def gz:=And.intro @dw (And.intro @QbO (And.intro @pd Zai))
def bC:=And.intro gz (And.intro @kU Zal)
def bL:=And.intro @oo (And.intro @oq (And.intro @fm (And.intro @RF (And.intro @dA @hU))))
end sx
namespace syn
open Go Go.RowKit cls
variable {l:List UInt8} {i:Nat}
def En {G:List Gt} (h:i<G.length):G[i]?=some (G.getD i (0,0)):=getD_eq h _
theorem kV {m:List Rg} (h:cls.Good m):aU m=m:=Ec h λr=>by
 cases a:bk m r
 ·simp
 ·obtain⟨p,b,h1,c⟩:=(r_ m r).1 a;have:=h.1 p b;grind [gI,uy]
theorem qi {r:Int} (h:fD r):ew r=[(r,r)]:=by
 have b:=(gI r).1 h;refine kV ⟨λp a=>?_,by simp⟩;grind [uy]
def b6 (c:Nat):Int×Nat×Nat:=
 if c<128 then(0,0,0) else if c<194 then(-1,0,0) else if c<224 then(1,128,191) else if c=224 then(2,160,191) else if c=237 then(2,128,159)
 else if c<240 then(2,128,191) else if c=240 then(3,144,191) else if c<244 then(3,128,191) else if c=244 then(3,128,143) else(-1,0,0)
def dx:Nat->Int->Nat->Nat->List UInt8->Option Int
 | 0,r,_,_,_=>some r
 | _+1,_,_,_,[]=>none
 | k+1,r,lo,hi,b::t=>if b.toNat<lo\/hi<b.toNat then none else dx k (r*64+b.toNat % 64) 128 191 t
def start (k:Int) (c:Nat):Int:=if k=0 then c else if k=1 then(c % 32:Nat) else if k=2 then(c % 16:Nat) else(c % 8:Nat)
def cB:List UInt8->Int×Int
 | []=>(0,0)
 | c::t=>if (b6 c.toNat).1<0 then(0,0) else match dx (b6 c.toNat).1.toNat (start (b6 c.toNat).1 c.toNat) (b6 c.toNat).2.1 (b6 c.toNat).2.2 t with
  | some r=>(r,(b6 c.toNat).1+1)
  | none=>(0,0)
def kW (c:Nat):((b6 c).1= -1\/(b6 c).1=0\/(b6 c).1=1\/(b6 c).1=2\/(b6 c).1=3)/\(b6 c).2.1<256/\(b6 c).2.2<256:=by
 unfold b6
 repeat' split
 all_goals simp
theorem uH (x:UInt8) (t:List UInt8) {n:Nat} {k:Int} {lo hi:Nat} (b:x.toNat=n) (a:b6 n=(k,lo,hi)):cB (x::t)=if k<0 then(0,0) else match dx k.toNat (start k n) lo hi t with
  | some r=>(r,k+1)
  | none=>(0,0):=by
 grind [cB]
def iM:Nat->List UInt8->List Gt
 | 0,_=>[]
 | n+1,l=>if l=[] then[] else if (cB l).2=0 then(65533,1)::iM n (l.drop 1) else cB l::iM n (l.drop (cB l).2.toNat)
def bg (l:List UInt8):List Gt:=iM l.length l
theorem q_:∀(k:Nat) (r:Int) (lo hi:Nat) (t:List UInt8) (x:Int),dx k r lo hi t=some x->k<=t.length
 | 0,_,_,_,_,_,_=>Zaj _
 | k+1,r,lo,hi,[],x,h=>by cases h
 | k+1,r,lo,hi,b::t,x,h=>by
  rw[dx] at h;split at h
  ·cases h
  ·have:=q_ k _ _ _ t x h;simp;omega
theorem kX (l:List UInt8):(cB l).2=0\/∃n:Nat,(cB l).2=n/\1<=n/\n<=l.length/\n<=4:=by
 rcases l with _ | ⟨c,t⟩
 ·exact .inl rfl
 ·have d:=(kW c.toNat).1;obtain⟨m,b⟩:∃m,b6 c.toNat=m:=⟨_,rfl⟩;obtain⟨k,lo,hi⟩:=m;rw[uH c t rfl b];rw[b] at d;split
  ·omega
  ·cases a:dx k.toNat (start k c.toNat) lo hi t with
   | none=>exact .inl rfl
   | some r=>
    have:=q_ _ _ _ _ _ _ a;refine .inr ⟨k.toNat+1,?_,?_,?_,?_⟩
    ·grind
    ·omega
    ·grind
    ·omega
theorem mN (n:Nat):iM n []=[]:=by cases n<;>rfl
theorem mP (h:l≠[]) (h0:(cB l).2=0):iM (i+1) l=(65533,1)::iM i (l.drop 1):=by grind [iM]
theorem pj (h:l≠[]) {m:Nat} (h0:(cB l).2=m) (a:1<=m):iM (i+1) l=cB l::iM i (l.drop m):=by
 grind [iM]
theorem rb:∀(n k:Nat) (l:List UInt8),l.length<=n->l.length<=k->iM n l=iM k l
 | 0,k,l,h,_=>by
  grind [mN]
 | n+1,0,l,_,h=>by
  grind [mN]
 | n+1,k+1,l,h,b=>by
  by_cases hl:l=[]
  ·grind [mN]
  ·rcases kX l with h0 | ⟨m,a,h1,c,_⟩
   ·rw[mP hl h0,mP hl h0,rb n k _ (by grind) (by grind)]
   ·rw[pj hl a h1,pj hl a h1,rb n k _ (by grind) (by grind)]
theorem xE {r lo hi x} (h:dx 1 r lo hi l=some x):∃b:Nat,lo<=b/\b<=hi/\x=r*64+(b % 64:Nat):=by
 cases l with
 | nil=>cases h
 | cons b l=>
  grind [dx]
theorem GW {r lo hi x} (h:dx 2 r lo hi l=some x):∃b d:Nat,lo<=b/\b<=hi/\128<=d/\d<=191/\x=(r*64+(b % 64:Nat))*64+(d % 64:Nat):=by
 cases l with
 | nil=>cases h
 | cons b l=>
  rw[dx] at h;split at h
  ·cases h
  ·obtain⟨d,h1,a,c⟩:=xE h;exact⟨b.toNat,d,ω,ω,h1,a,by assumption⟩
theorem Q7 {r lo hi x} (h:dx 3 r lo hi l=some x):∃b d f:Nat,lo<=b/\b<=hi/\128<=d/\d<=191/\128<=f/\f<=191/\x=((r*64+(b % 64:Nat))*64+(d % 64:Nat))*64+(f % 64:Nat):=by
 cases l with
 | nil=>cases h
 | cons b l=>
  rw[dx] at h;split at h
  ·cases h
  ·obtain⟨d,f,h1,a,c,e,g⟩:=GW h;exact⟨b.toNat,d,f,ω,ω,h1,a,c,e,by assumption⟩
def Hd (n:Nat):(n<128/\b6 n=(0,0,0))\/b6 n=(-1,0,0)\/(194<=n/\n<224/\b6 n=(1,128,191))\/(n=224/\b6 n=(2,160,191))\/(n=237/\b6 n=(2,128,159))\/
  (225<=n/\n<240/\n≠237/\b6 n=(2,128,191))\/(n=240/\b6 n=(3,144,191))\/(241<=n/\n<244/\b6 n=(3,128,191))\/(n=244/\b6 n=(3,128,143)):=by
 unfold b6
 repeat' split
 all_goals simp
 all_goals omega
theorem Eo:∀l:List UInt8,(cB l).2≠0->fD (cB l).1
 | [],h=>absurd rfl h
 | c::t,h=>by
  have d:=λ{k:Int} {lo hi:Nat}=>uH c t (n:=c.toNat) (k:=k) (lo:=lo) (hi:=hi) rfl
  rw[gI];rcases Hd c.toNat with⟨h1,a⟩ | a | ⟨h1,b,a⟩ | ⟨h1,a⟩ | ⟨h1,a⟩ | ⟨h1,b,e,a⟩ | ⟨h1,a⟩ | ⟨h1,b,a⟩ | ⟨h1,a⟩
  all_goals grind [dx,start,xE,GW,Q7]
theorem pk:∀(n:Nat) (l:List UInt8),∀g∈iM n l,fD g.1
 | 0,l,g,h=>by cases h
 | n+1,l,g,h=>by
  by_cases hl:l=[]
  ·grind [mN]
  ·rcases kX l with h0 | ⟨m,a,h1,b,c⟩
   ·rw[mP hl h0] at h;rcases Zbf.1 h with rfl | h
    ·decide
    ·exact pk n _ g h
   ·rw[pj hl a h1] at h;rcases Zbf.1 h with rfl | h
    ·grind [Eo]
    ·exact pk n _ g h
theorem xU (h:i<(bg l).length):fD (aK (bg l) i):=
 pk _ _ _ (ZaJ (En h))
theorem KK (l:List UInt8) (i:Nat):0<=aK (bg l) i:=by
 grind [gI,xU,aK]
def s3:aU [(9,10),(13,13),(32,32)]=[(9,10),(13,13),(32,32)]:=kV ⟨by simp[uy],by simp⟩
def w4:aU [(48,57),(65,90),(95,95),(97,122)]=[(48,57),(65,90),(95,95),(97,122)]:=kV ⟨by simp[uy],by simp⟩
theorem He (l:List UInt8):Fx (bg l) where
 one i h:=qi (xU h)
 n:=qi (by decide)
 t:=qi (by decide)
 r:=qi (by decide)
 d:=kV ⟨by simp[uy],by simp⟩
 s:=by rw[s3];rfl
 w:=by rw[w4];rfl
 s0:=by rw[s3];simp
 w0:=by rw[w4];simp
 not l:=by
  show aU (iv 0 (aU (aU l)))=aU (iv 0 (aU l))
  rw[kV (dW l).1]
theorem Hf (l:List UInt8):GN (bg l)=xw (bg l):=Ng (He l)
end syn
set_option maxRecDepth 100000
set_option maxHeartbeats 4000000
namespace sx
noncomputable section
open Go Go.RowKit cls syn
def kY:Nat->Nat->Nat->By->Bool
 | 0,_,_,_=>false
 | _+1,_,_,[]=>true
 | k+1,lo,hi,b::t=>if b.toNat<lo\/hi<b.toNat then false else kY k 128 191 t
def mo (y:By):Int×Nat×Nat:=b6 (y.getD 0 0).toNat
def ji (y:By):Bool:=decide (y≠[])&&decide (0<=(mo y).1)&&kY (mo y).1.toNat (mo y).2.1 (mo y).2.2 (y.drop 1)
def in1 (args:List (AV D.E)):C Int:=match args with
 | [a]=>aP (cT a) λ_ n=>.ret n
 | _=>.fail
def Nt (args:List (AV D.E)) (s:St D.E):C By:=match args with
 | [a]=>az (aL D s 0 a) λl=>.ret (l:By)
 | _=>.fail
def Hg (y:Int):Prop:=0<=y/\y<256
abbrev bO (f:FuncId) (Y:Type) (oM:List (AV D.E)->St D.E->C Y) (pre:Y->Prop) (args:Y->List (AV D.E)) (res:Y->AV D.E):bh D:=⟨f,Y,oM,pre,args,λ_=>[],res,λ_=>[],0,0⟩
def AP:bh D:=bO 209 Int (λa _=>in1 a) Hg (λy=>[.int .u8 y]) λy=>.tuple [Qvo (b6 y.toNat).1,.int .u8 ((b6 y.toNat).2.1:Nat),.int .u8 ((b6 y.toNat).2.2:Nat)]
def QhL (_:AP.Y):cH D:=dY ()
def po:bh D:=bO 167 By Nt (λ_=>True) (λy=>[.list 0 y]) λy=>.tuple [.int .i32 (cB y).1,Qvo (cB y).2,.bool (ji y)]
def u_ (y:By) (i:Nat):Int:=if i=1 then((mo y).2.1:Nat) else 128
def tF (y:By) (i:Nat):Int:=if i=1 then((mo y).2.2:Nat) else 191
def vb (y:By):Int:=syn.start (mo y).1 (y.getD 0 0).toNat
def xV (y:By) (i:Nat) (r:Int):Prop:=1<=i/\(i:Int)<=(mo y).1+1/\0<=r/\r<128*64 ^ (i-1)/\dx (mo y).1.toNat (vb y) (mo y).2.1 (mo y).2.2 (y.drop 1)=dx ((mo y).1.toNat+1-i) r (u_ y i).toNat (tF y i).toNat (y.drop i)/\
 kY (mo y).1.toNat (mo y).2.1 (mo y).2.2 (y.drop 1)=kY ((mo y).1.toNat+1-i) (u_ y i).toNat (tF y i).toNat (y.drop i)
def Qey (y:po.Y):cH D:=⟨[],[],[(1018,⟨Nat×Int,[0,5],λx=>[(2,.int .i32 x.2),(6,.int .u8 (u_ y x.1)),(7,.int .u8 (tF y x.1)),(8,Qvo x.1)],[],λ_=>[],0,λx=>xV y x.1 x.2,λx=>5-x.1⟩)],
 [(63,⟨Unit,[0,5,6,7],λ_=>[(2,.int .i32 (vb y))],[],λ_=>[],0,λ_=>True,λ_=>0⟩)],1,[]⟩
def Hh:bh D:=bO 113 By Nt (λy=>y.length<=1000000) (λy=>[.list 0 y]) λy=>.list 13 (bg y)
def QnV (y:Hh.Y):cH D:=⟨[],[],[(28,⟨By×List Gt,[],λx=>[(0,.list 0 x.1),(3,.grow 13 x.2 0)],[],λ_=>[(0,.tok 13 192)],1,λx=>x.2++bg x.1=bg y/\x.1.length+x.2.length<=y.length,λx=>x.1.length⟩)],[],1,[]⟩
structure re where
 pl:List Int
 us:List Item
def spO (b n m:Nat) (y:re):List (Nat×AO D.E):=[(b,.cells [.own n 1 (ag y.pl),.own m 2 (ag y.us)] 327 false),(n,.arr 5 y.pl 3 false),(m,.arr 18 y.us 379 false)]
def QnX (v:AV D.E) (s:St D.E):C re:=match v with
 | .ptr b _=>az (cR (s.h.get b)) λo=>match o with
  | .cells cs _ _=>match cs with
   | [p,l]=>az (aL D s 5 p) λp=>az (aL D s 18 l) λl=>.ret ⟨p,l⟩
   | _=>.fail
  | _=>.fail
 | _=>.fail
def it0:Item:=⟨0,false⟩
def Pg:List Item:=[]
def zrs (n:Int):List Int:=List.replicate n.toNat 0
def Hi (y:re) (i:Int):Bool:=decide (0<=i)&&decide (i<y.pl.length)&&decide (y.pl.getD i.toNat 0<y.us.length)&&decide ((y.us.getD (y.pl.getD i.toNat 0).toNat it0).i=i)
def mQ (y:re) (i:Int):Bool:=decide (0<=i)&&decide (i<y.pl.length)&&!Hi y i
def nQ (y:re) (i:Int) (x:Bool):re:=if mQ y i=true then⟨y.pl.set i.toNat y.us.length,y.us++[⟨i,x⟩]⟩ else y
structure LnY where
 n:Int
 l:Bool
def Nu:bh D:=⟨206,Unit,λ_ _=>.ret (),λ_=>True,λ_=>[],λ_=>[],λ_=>.agg [Qvo (-1),Qvo (-1),Qvo (-1),Qvo (-1),Qvo (-1),Qvo (-1),Qvo (-1),Qvo (-1),Qvo (-1),Qvo (-1)],λ_=>[],0,0⟩
structure iC where
 af:List aW
 av:List Int
def XG (y:iC):Prop:=y.af.length<=1000/\y.av.length<=1000/\∀x∈y.af,x.bm.length<=1000000
def Hj (y:iC):AV D.E:=.agg [.list 8 y.af,.list 5 y.av]
def Hk (v:AV D.E) (s:St D.E):C iC:=az (asAgg v) λcs=>match cs with
 | [c,l]=>az (aL D s 8 c) λc=>az (aL D s 5 l) λl=>.ret ⟨c,l⟩
 | _=>.fail
def QhN:bh D:=⟨205,iC,λa s=>match a with
 | [p]=>Hk p s
 | _=>.fail,XG,λy=>[Hj y],λ_=>[],Hj,λ_=>[],0,0⟩
def Qn0 (y:QhN.Y):cH D:=⟨[],[],[(58,⟨Nat,[2,11,12],λk=>[(3,.ptr 3 0),(13,Qvo k)],[1],λk=>[(3,.cells [.grow 8 (y.af.take k) 4,.list 5 y.av] 88 false),(4,.tok 8 203)],5,λk=>k<=y.af.length,λk=>y.af.length-k⟩)],[],1,[]⟩
structure pq where
 p:iC
 aI:Int
 L:List dd
 s:re
def vmR (b m n:Nat) (y:pq):List (Nat×AO D.E):=(b,.cells [.list 8 y.p.af,.list 5 y.p.av,.int .i64 y.aI,.own n 12 (ag y.L),.ptr (b+1) 0] 260 false)::(spO (b+1) (b+2) m y.s++[(n,.arr 2 y.L 106 false)])
def vmO (b:Nat) (y:pq):List (Nat×AO D.E):=vmR b (b+3) (b+4) y
def Qn2 (v:AV D.E) (s:St D.E):C pq:=match v with
 | .ptr b _=>az (cR (s.h.get b)) λo=>match o with
  | .cells cs _ _=>match cs with
   | [c,l,n,x,q]=>az (aL D s 8 c) λc=>az (aL D s 5 l) λl=>aP (cT n) λ_ n=>az (aL D s 2 x) λx=>az (QnX q s) λq=>.ret ⟨⟨c,l⟩,n,x,q⟩
   | _=>.fail
  | _=>.fail
 | _=>.fail
def Qn3 (a:List (AV D.E)) (s:St D.E):C pq:=match a with
 | [p]=>Qn2 p s
 | _=>.fail
def sw (s:Int):dd:=⟨false,-1,-1,-1,-1,-1,-1,-1,-1,-1,-1,[⟨s,-1,-1,-1,-1,-1,-1,-1,-1,-1,-1⟩]⟩
def QhO (y:pq) (k:Nat):pq:={ y with L:=y.L++(y.p.av.take k).map sw }
def Hl:bh D:=⟨202,pq,Qn3,λy=>y.p.av.length+y.L.length<=1000000,λ_=>[.ptr 0 0],vmO 0,λ_=>.tuple [],λy=>vmR 0 3 5 (QhO y y.p.av.length),5,6⟩
def Qn4 (y:Hl.Y):cH D:=⟨[],[],[(6,⟨Nat,[0,8,9],λk=>[(10,Qvo k)],[],λk=>vmR 0 3 5 (QhO y k),6,λk=>k<=y.p.av.length,λk=>y.p.av.length-k⟩)],[],1,[]⟩
def KL (y:Unit):Prop:=aa ([-1,-1,-1,-1,-1,-1,-1,-1,-1,-1]:List Int) (True)
abbrev RAH {T0:Type} (a:T0) (p:Prop):Prop:=aa [a] p
abbrev RAI {T0 T1:Type} (a:T0) (b:T1) (p:Prop):Prop:=aa [a] (aa [b] p)
def Si (y:iC):Prop:=let a:=y.af.length;let q1:=ag y.af;bJ (ag y.av) 8=true/\(∃z:Nat,RAI y.af q1 (0=(z:Int)/\[]=List.take z y.af/\aa [y.av] ((Iv (z<=a)))))/\(∀x:Nat,let b:=List.take x y.af;let c:=gt (aW.mk 0 0 0 []) y.af (x:Int).toNat;(Iv (x<=a))->aj (aw (x:Int) q1) (aG 0 (x:Int)=true/\aw (x:Int) q1=true/\bJ (ag c.bm) 8=true/\bJ (ag (bM b [c])) 48=true/\∃z:Nat,RAI y.af q1 (ay .i64 (x:Int) 1=(z:Int)/\bM b [c]=List.take z y.af/\aa [y.av] ((Iv (z<=a/\(a-z)<(a-x)))))) (b=y.af/\RAH y.av (True)))
abbrev RAJ {T0 T1 T2:Type} (a:T0) (b:T1) (c:T2) (p:Prop):Prop:=aa [a] (aa [b] (aa [c] p))
abbrev RAK {T0 T1 T2 T3:Type} (a:T0) (b:T1) (c:T2) (d:T3) (p:Prop):Prop:=aa [a] (aa [b] (aa [c] (aa [d] p)))
abbrev RA3 (v:iC) (p:Prop):Prop:=aa [v.af] (aa [v.av] p)
def Qb4 (y:pq):Prop:=let a:=ag y.p.av;let q1:=y.p.av.length;let d:=λp:Prop=>RA3 y.p (RAH y.aI p);let e:=λp:Prop=>RAK (ag y.s.pl) (ag y.s.us) y.s.pl y.s.us p;let u:=λz:Nat=>y.L++List.map sw (List.take z y.p.av);let A:=λx:Nat=>y.L++List.map sw (List.take x y.p.av);let B:=y.L++List.map sw (List.take q1 y.p.av);(∃z:Nat,RAI y.p.av a (0=(z:Int)/\d (ag y.L=ag (u z)/\y.L=(u z)/\e ((Iv (z<=q1))))))/\(∀x:Nat,let b:=ag (A x);let c:=bM (A x) [dd.mk false (-1) (-1) (-1) (-1) (-1) (-1) (-1) (-1) (-1) (-1) [aX.mk (gt 0 y.p.av (x:Int).toNat) (-1) (-1) (-1) (-1) (-1) (-1) (-1) (-1) (-1) (-1)]];(Iv (x<=q1))->aj (aw (x:Int) a) (aG 0 (x:Int)=true/\aw (x:Int) a=true/\Iv True/\Iv True/\bJ (ag c) 112=true/\RAJ b b b (∃z:Nat,aa [y.p.av] (aa [a] (ay .i64 (x:Int) 1=(z:Int)/\d (ag c=ag (u z)/\c=(u z)/\e ((Iv (z<=q1/\(q1-z)<(q1-x))))))))) (d (b=ag B/\(A x)=B/\e (True))))
theorem Qb5:Ok Nu:=okZ (V:=KL) [] f206 (λ_=>⟨[],[],[],[],11,[]⟩) trivial λy a=>by
 grind [KL]
theorem Qn6 (y:iC) (a:XG y):Si y:=by
 unfold Si;simp only[bL,bC,au,br,aT,dq,Zad];obtain⟨h1,b,c⟩:y.af.length<=1000/\y.av.length<=1000/\∀x∈y.af,x.bm.length<=1000000:=a;grind [List.take_append_getElem]
theorem Sj (L:List dd) {l:List Int} {x:Nat} (h:x<l.length):L++(l.take x).map sw++[sw (l.getD x 0)]=L++(l.take (x+1)).map sw:=by
 grind [List.take_append_getElem]
theorem QhP:Ok Hl:=okZ (V:=Qb4) [Nu] f202 Qn4 Qb5 λy a=>by
 unfold Qb4;simp only[bL,bC,au,br,aT,dq,Zad];have h:y.p.av.length+y.L.length<=1000000:=a;refine⟨⟨0,rfl,by simp,by simp,Zaj _⟩,λx b=>⟨λk=>?_,λk=>?_⟩⟩
 ·have hk:x<y.p.av.length:=ω;have e:=Sj y.L hk;have hl:(y.L++(y.p.av.take (x+1)).map sw).length<=1000001:=by
   grind
  refine⟨ω,k,?_,x+1,ba ω ω,ZaR (λl:List dd=>(l.length:Int)) e,e,ω,ω⟩;grind
 ·grind
def Hm (y:Int):Prop:=let c:=(b6 y.toNat).2;let q1:=(b6 y.toNat).1;let a:=(c.2:Int);let b:=(c.1:Int);let d:Prop:=((-1)=q1/\0=b/\0=a/\True);aj (aw y 128) (0=q1/\0=b/\0=a/\True) (aj (aw y 194) (d) (aj (aw y 224) (1=q1/\128=b/\191=a/\True) (aj (aB y 224) (2=q1/\160=b/\191=a/\True) (aj (aB y 237) (2=q1/\128=b/\159=a/\True) (aj (aw y 240) (2=q1/\128=b/\191=a/\True) (aj (aB y 240) (3=q1/\144=b/\191=a/\True) (aj (aw y 244) (3=q1/\128=b/\191=a/\True) (aj (aB y 244) (3=q1/\128=b/\143=a/\True) (d)))))))))
def Cp (y:List UInt8):Prop:=let c:=ag y;let q1:=((gt 0 y 0).toNat:Int);let a:=(b6 q1.toNat).1;let j:=(b6 q1.toNat).2;let g:=(j.2:Int);let h:=(j.1:Int);let e:Prop:=(0=(cB y).1/\0=(cB y).2/\false=ji y/\True);aj (aB c 0) (e) (Tt 1 (aw 0 c/\Iv (Hg q1)/\RAH q1 (aj (aw a 0) (e) (Tt 1 (aw 0 c/\(aj (aw 0 a) (Tt 1 (aw 0 c/\aG 0 (jP .u64 a)/\Tt 1 (∃z:Unit,aa [y] (aa [a,h,g] (lF .i32 (jP .i32 q1) (oC .i32 63 (jP .u64 a))=vb y/\(Iv True)))))) (∃z:Unit,aa [y] (aa [a,h,g] (jP .i32 q1=vb y/\(Iv True)))))/\(∀x:Unit,(Iv True)->(∃z:Nat×Int,aa [y] (aa [a] (vb y=z.2/\h=u_ y z.1/\g=tF y z.1/\1=(z.1:Int)/\(Iv (xV y z.1 z.2)))))/\(∀d:Nat×Int,let b:=(d.1:Int);let i:=((gt 0 y b.toNat).toNat:Int);let k:=aw (tF y d.1) i;let f:=aw i (u_ y d.1);(Iv (xV y d.1 d.2))->aj (aG b a) (aj (aG c b) (0=(cB y).1/\0=(cB y).2/\true=ji y/\True) (aG 0 b/\aw b c/\aj f (e) (aG 0 b/\aw b c/\aj k (e) (Tt 1 (aG 0 b/\aw b c/\∃z:Nat×Int,aa [y] (aa [a] (FZ .i32 (oO .i32 d.2 6) (jP .i32 (lF .u8 i 63))=z.2/\128=u_ y z.1/\191=tF y z.1/\ay .i64 b 1=(z.1:Int)/\(Iv (xV y z.1 z.2/\(5-z.1)<(5-d.1)))))))))) (d.2=(cB y).1/\ay .i64 a 1=(cB y).2/\false=ji y/\True))))))))
def Sl (y:List UInt8):Prop:=let u:=λz:(List UInt8)×(List (Int×Int))=>(z.2++bg z.1)=bg y/\(z.1.length+z.2.length)<=y.length;(∃z:(List UInt8)×(List (Int×Int)),y=z.1/\[]=z.2/\(Iv (u z)))/\(∀x:(List UInt8)×(List (Int×Int)),let a:=(cB x.1).2;let q1:=bM x.2 [(65533,1)];let b:=bM x.2 [((cB x.1).1,a)];(Iv ((x.2++bg x.1)=bg y/\(x.1.length+x.2.length)<=y.length))->aj (aw 0 (ag x.1)) (Iv True/\RAH x.1 (aj (aB a 0) (bJ (ag q1) 16/\Tt 1 (aG 1 (ag x.1)/\∃z:(List UInt8)×(List (Int×Int)),wD x.1 1=z.1/\q1=z.2/\(Iv ((u z)/\z.1.length<x.1.length)))) (bJ (ag b) 16/\aG 0 a/\aG a (ag x.1)/\∃z:(List UInt8)×(List (Int×Int)),wD x.1 a=z.1/\b=z.2/\(Iv ((u z)/\z.1.length<x.1.length))))) (x.2=bg y/\True))
end
end sx
end Go.Proofs.YtiiiphndmbabcaaGreat
