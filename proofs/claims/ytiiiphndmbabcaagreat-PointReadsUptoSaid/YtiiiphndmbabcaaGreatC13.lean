/- PointReads: a part of the proof. -/
import Derived.Test.YtiiiphndmbabcaaGreatC12
import Derived.Test.YtiiiphndmbabcaaGreatC4
import Derived.Test.YtiiiphndmbabcaaGreatC3
import Derived.Shelf.SlGeneric
import Derived.Shelf.SlSortCmp.WholeK
import Derived.Ground.SlsfProg
import Derived.Ground.NamesProg
import Derived.Shelf.Strings.Builder1
import Derived.Shelf.LaysM
import Derived.Test.YtiiiphndmbabcaaGreatProg
import Derived.Test.YtiiiphndmbabcaaGreatC9
import Derived.Lib.MinMax
import Derived.Deep.DeepMust
import Derived.RegionTactic
import Derived.Shelf.SlSortCmp.NoneTotal
import Derived.Test.YtiiiphndmbabcaaGreatC5
import Derived.Shelf.Spec.SlicesInsert
import Derived.Lib.AppendZerosOnto
import Derived.Laws.NewBlocks
set_option linter.all false
namespace Go.Proofs.YtiiiphndmbabcaaGreat
open Go.Proofs.Tryz
set_option maxRecDepth 100000
set_option maxHeartbeats 4000000
namespace sx
noncomputable section
open Go Go.RowKit cls syn
variable {l:By} {s:RS} {m:Int}
def QbY (y:Prod (List UInt8) RS):Prop:=let h:=kP y.1 y.2;let q1:=gS y.1 y.2;let g:=nu y.1 y.2;let b:=x5 y.1 q1;let i:=dc y.1 q1 6;let j:=dc y.1 q1 9;let k:=dc y.1 q1 8;let l:=dc y.1 q1 7;let m:=dc y.1 q1 3;let n:=dc y.1 q1 5;let c:=dc y.1 q1 4;let d:=dc y.1 q1 1;let e:=dc y.1 q1 2;let f:=dc y.1 q1 0;let a:=zT y.1 b;(Iv (bw (y.1,y.2)))/\aa [y.1] (aa [RS.at_ y.2,RS.an y.2] ((Iv (bw (y.1,q1)))/\aa [y.1] (aa [RS.at_ q1,RS.an q1] ((Iv (bw (y.1,b)))/\aa [y.1] (aa [RS.at_ b,RS.an b] (aa [h] (aa [f,d,e,m,c,n,i,l,k,j] (((tD y.1 b false)=(tD y.1 (u9 y.1 y.2) false))/\aa [y.1] (((RS.at_ a)=(RS.at_ g))/\((RS.an a)=(RS.an g))/\True)))))))))
def Qgi:∀y,QbY y=Qvm y:=λy=>by kernel_rfl
def YC (y:Prod (List UInt8) RS):Prop:=let f:=tA y.1 y.2;let q1:=fM y.1 y.2 false;let i:=tz y.1 y.2 (8:Int);let c:=dp y.1 y.2 (8:Int);let d:=eB y.1 y.2 (8:Int);let p:=fV y.1 y.2 (8:Int);let o:=Int.toNat i;let q:=aB (RS.an d) (0:Int);let r:=aw (cx .i64 (ag y.1) (RS.at_ d)) p;(Iv (bw (y.1,y.2)))/\aa ([(8:Int)]:List Int) (aa [y.1] (aa [RS.at_ y.2,RS.an y.2] ((((q)->aa [RS.an d] (aa [y.1] (aa [RS.at_ d] (((r)->(Iv True)/\aa ([RS.at_ y.2,(3:Int)]:List Int) (aa [y.1] (aa [RS.at_ d,RS.an d] (∃z:Unit,(p=i)/\aa [y.1] (((RS.at_ y.2)=(RS.at_ c))/\((3:Int)=(RS.an c))/\(Iv True))))))/\((r=false)->∃z:Unit,(p=i)/\aa [y.1] (((RS.at_ d)=(RS.at_ c))/\((RS.an d)=(RS.an c))/\(Iv True)))))))/\((q=false)->aa [RS.an d] (∃z:Unit,(p=i)/\aa [y.1] (((RS.at_ d)=(RS.at_ c))/\((RS.an d)=(RS.an c))/\(Iv True)))))/\(∀x:Unit,(Iv True)->(∃z:Nat,let s:=Co (nu y.1) c z;aa [i] ((([]:List dd)=(Ns (Ha y.1 false) (nu y.1) c z))/\((0:Int)=((z:Nat):Int))/\aa [y.1] (((RS.at_ c)=(RS.at_ s))/\((RS.an c)=(RS.an s))/\(Iv (((z:Nat)<=o)/\vX (nu y.1) c z)))))/\(∀j:Nat,let k:=aw ((j:Nat):Int) i;let a:=Co (nu y.1) c j;let b:=gS y.1 a;let l:=nu y.1 a;let g:=aB (RS.an a) (0:Int);let h:=Ns (Ha y.1 false) (nu y.1) c j;let e:=Bool.not g;let m:=bM h ((dd.mk (kP y.1 a) (dc y.1 b 0) (dc y.1 b 1) (dc y.1 b 2) (dc y.1 b 3) (dc y.1 b 4) (dc y.1 b 5) (dc y.1 b 6) (dc y.1 b 7) (dc y.1 b 8) (dc y.1 b 9) (tD y.1 (u9 y.1 a) false))::([]:List dd));(Iv (((j:Nat)<=o)/\vX (nu y.1) c j))->((k)->((g)->(Iv (bw (y.1,a)))/\aa [y.1] (aa [RS.at_ a,RS.an a] (((bJ (ag m) 112))/\∃z:Nat,let n:=Co (nu y.1) c z;aa [i] ((m=(Ns (Ha y.1 false) (nu y.1) c z))/\((ay .i64 ((j:Nat):Int) (1:Int))=((z:Nat):Int))/\aa [y.1] (((RS.at_ l)=(RS.at_ n))/\((RS.an l)=(RS.an n))/\(Iv ((((z:Nat)<=o)/\vX (nu y.1) c z)/\((o:Nat) -z:Nat)<((o:Nat) -j))))))))/\((g=false)->((e)->(([]:List dd)=q1)/\aa [y.1] (((RS.at_ a)=(RS.at_ f))/\((RS.an a)=(RS.an f))/\True))/\((e=false)->(h=q1)/\aa [y.1] (((RS.at_ a)=(RS.at_ f))/\((RS.an a)=(RS.an f))/\True))))/\((k=false)->((e)->(([]:List dd)=q1)/\aa [y.1] (((RS.at_ a)=(RS.at_ f))/\((RS.an a)=(RS.an f))/\True))/\((e=false)->(h=q1)/\aa [y.1] (((RS.at_ a)=(RS.at_ f))/\((RS.an a)=(RS.an f))/\True))))))))
def Qeu:∀y,YC y=QoF y:=λy=>by kernel_rfl
def Qgj (y:Prod (List UInt8) RS):Prop:=let a:=tA y.1 y.2;let q1:=fM y.1 y.2 false;(Iv (bw (y.1,y.2)))/\aa [y.1] (aa [RS.at_ y.2,RS.an y.2] (aa [q1] (aa [y.1] (aa [RS.at_ a,RS.an a] (True)))))
def QiS:∀y,Qgj y=Qw7 y:=λy=>by kernel_rfl
def QbZ (y:Prod (List UInt8) RS):Prop:=let c:=kT y.1 y.2;let q1:=kR y.1 y.2 (3:Int);let a:=u0 y.1 y.2 (3:Int);let b:=db y.1 a;let d:=tA y.1 b;(Iv (bw (y.1,y.2)))/\aa ([(3:Int)]:List Int) (aa [y.1] (aa [RS.at_ y.2,RS.an y.2] ((Iv (bw (y.1,a)))/\aa [y.1] (aa [RS.at_ a,RS.an a] ((Iv (bw (y.1,b)))/\aa [y.1] (aa [RS.at_ b,RS.an b] (aa [q1] (((cJ y.1 a)=(cJ y.1 (mK y.1 y.2)))/\((fM y.1 b false)=(fM y.1 (kS y.1 y.2) false))/\aa [y.1] (((RS.at_ d)=(RS.at_ c))/\((RS.an d)=(RS.an c))/\True)))))))))
def Qgk:∀y,QbZ y=Qvp y:=λy=>by kernel_rfl
def Qav (y:Prod (List UInt8) RS):Prop:=let q:=cJ y.1 y.2;let q1:=sr y.1 y.2;let m:=x6 y.1 y.2;let j:=db y.1 y.2;let n:=wA y.1 y.2;let o:=xS y.1 y.2;let k:=db y.1 j;let p:=db y.1 n;let l:=kT y.1 q1;let r:=cJ y.1 j;let h:=kT y.1 l;let d:=gS y.1 k;let e:=gS y.1 d;let f:=db y.1 e;let g:=db y.1 f;let a:=tA y.1 g;let b:=kT y.1 a;let c:=kT y.1 b;let i:=kT y.1 c;(Iv (bw (y.1,y.2)))/\aa [y.1] (aa [RS.at_ y.2,RS.an y.2] ((Iv (bw (y.1,j)))/\aa [y.1] (aa [RS.at_ j,RS.an j] ((Iv (bw (y.1,k)))/\aa [y.1] (aa [RS.at_ k,RS.an k] ((Iv (bw (y.1,d)))/\aa [y.1] (aa [RS.at_ d,RS.an d] ((Iv (bw (y.1,e)))/\aa [y.1] (aa [RS.at_ e,RS.an e] ((Iv (bw (y.1,f)))/\aa [y.1] (aa [RS.at_ f,RS.an f] ((Iv (bw (y.1,g)))/\aa [y.1] (aa [RS.at_ g,RS.an g] ((Iv (bw (y.1,a)))/\aa [y.1] (aa [RS.at_ a,RS.an a] ((Iv (bw (y.1,b)))/\aa [y.1] (aa [RS.at_ b,RS.an b] ((Iv (bw (y.1,c)))/\aa [y.1] (aa [RS.at_ c,RS.an c,q,r] (((kP y.1 k)=(kP y.1 o))/\((kP y.1 d)=(kP y.1 (gS y.1 o)))/\((cJ y.1 e)=(cJ y.1 n))/\((cJ y.1 f)=(cJ y.1 p))/\((fM y.1 g false)=(fM y.1 (db y.1 p) false))/\((kR y.1 a (3:Int))=(kR y.1 q1 (3:Int)))/\((cJ y.1 (mK y.1 a))=(cJ y.1 (mK y.1 q1)))/\((fM y.1 (kS y.1 a) false)=(fM y.1 (kS y.1 q1) false))/\((kR y.1 b (3:Int))=(kR y.1 l (3:Int)))/\((cJ y.1 (mK y.1 b))=(cJ y.1 (mK y.1 l)))/\((fM y.1 (kS y.1 b) false)=(fM y.1 (kS y.1 l) false))/\((kR y.1 c (3:Int))=(kR y.1 h (3:Int)))/\((cJ y.1 (mK y.1 c))=(cJ y.1 (mK y.1 h)))/\((fM y.1 (kS y.1 c) false)=(fM y.1 (kS y.1 h) false))/\aa [y.1] (((RS.at_ i)=(RS.at_ m))/\((RS.an i)=(RS.an m))/\True)))))))))))))))))))))
def Qev:∀y,Qav y=QoG y:=λy=>by kernel_rfl
def ph (h:bw (l,s)):bw (l,gS l s):=by
 unfold gS T6;split
 ·exact h
 ·exact(jr h).1
def Mn (h:bw (l,s)):bw (l,u0 l s m):=by
 have⟨⟨g1,g2,g3⟩,a,b,c,d⟩:=pP (m:=m) h;simp only at g1 g2 g3;unfold u0 R7;split
 ·exact⟨g1,g2,g3⟩
 split
 ·exact h
 ·refine⟨?_,?_,g3⟩<;>simp only<;>omega
def Qgl (h:bw (l,s)):bw (l,zT l s):=BD (λ_ h=>YA h) (xR h) _
def RZ (h:bw (l,s)):bw (l,nu l s):=Qgl (BC (ph h))
def Mo (h:bw (l,s)):bw (l,tA l s):=BD (λ_ h=>RZ h) (xR h) _
def xT (h:bw (l,s)):bw (l,kT l s):=Mo (jr (Mn h)).1
def Qvq (y:By×RS) (a:T0.pre y):QbY y:=by
 have h:=a;unfold QbY;simp only[dw,Zai];exact⟨⟨h⟩,⟨ph h⟩,⟨BC (ph h)⟩,rfl,rfl,rfl⟩
theorem QoI:Ok T0:=nM (tab:=[uE,xO,G_]) (fn:=f145) (fI:=QmV) (by grind [RY,Qde,Qiv]) (by kernel_rfl) (by kernel_rfl) (λ_=>ZcY (by kernel_rfl)) λy a=>Eq.mp (Qgi y) (Qvq y a)
theorem QoK (y:By×RS) (g:Hb.pre y):YC y:=by
 have⟨l,s⟩:=y;have c:=g;have⟨⟨g1,g2,g3⟩,i,j,k,n⟩:=pP (m:=8) c;simp only at g1 g2 g3;unfold YC;have hs:cx IntKind.i64 ↑l.length (eB l s 8).at_=↑l.length-(eB l s 8).at_:=jQ ω ω;simp only[bL,dw,Zai,au,aT,hs,Zan,Zao,br];refine⟨⟨c⟩,⟨λb=>⟨λa=>⟨⟨trivial⟩,(),rfl,?_,?_,⟨trivial⟩⟩,λa=>⟨(),rfl,?_,?_,⟨trivial⟩⟩⟩,λb=>⟨(),rfl,?_,?_,⟨trivial⟩⟩⟩,λ_ _=>⟨⟨0,rfl,rfl,rfl,rfl,Zaj _,λ_ h=>absurd h ω⟩,λx e=>?_⟩⟩
 ·grind [dp]
 ·grind [dp]
 ·grind [dp]
 ·grind [dp]
 ·grind [dp]
 ·grind [dp]
 ·have f:=e.out.1;have d:=e.out.2;have o:tz l s 8=fV l s 8:=rfl;have hl:(Ns (Ha l false) (nu l) (dp l s 8) x).length=x:=C_ x;refine⟨λb=>⟨λa=>⟨⟨(BD (tC:=nu l) (λs h=>RZ h) (xR (m:=8) c) x)⟩,?_,x+1,?_,?_,rfl,rfl,⟨ω,Cm d a⟩,ω⟩,λa=>?_⟩,λb=>?_⟩
  ·grind
  ·rw[Mm];rfl
  ·grind
  ·grind [wy,fM,tA]
  ·grind [wy,fM,tA]
theorem QiV:Ok Hb:=nM (tab:=[s5,ss,T0]) (fn:=f144) (fI:=Qgg) (by grind [Mi,Cn,QoI]) (by kernel_rfl) (by kernel_rfl) (λ_=>ZcY (by kernel_rfl)) λy a=>Eq.mp (Qeu y) (QoK y a)
def Qw8 (y:By×RS) (a:YB.pre y):Qgj y:=by
 unfold Qgj;simp only[dw,Zai];exact⟨a⟩
theorem QmX:Ok YB:=nM (tab:=[Hb]) (fn:=f93) (fI:=Qvn) (by grind [QiV]) (by kernel_rfl) (by kernel_rfl) (λ_=>ZcY (by kernel_rfl)) λy a=>Eq.mp (QiS y) (Qw8 y a)
def Qvr (y:By×RS) (a:T1.pre y):QbZ y:=by
 have h:=a;have h1:=Mn (m:=3) h;unfold QbZ;simp only[dw,Zai];exact⟨⟨h⟩,⟨h1⟩,⟨(jr h1).1⟩,rfl,rfl,rfl,rfl⟩
theorem Qpi:Ok T1:=nM (tab:=[G',ou,YB]) (fn:=f94) (fI:=QmW) (by grind [QhF,zA,QmX]) (by kernel_rfl) (by kernel_rfl) (λ_=>ZcY (by kernel_rfl)) λy a=>Eq.mp (Qgk y) (Qvr y a)
def Qpj (y:By×RS) (i:Hc.pre y):Qav y:=by
 have h:=i;have h1:=(jr h).1;have a:=(jr h1).1;have b:=ph a;have c:=ph b;have d:=(jr c).1;have e:=(jr d).1;have f:=Mo e;have g:=xT f;unfold Qav;simp only[dw,Zai];refine⟨⟨h⟩,⟨h1⟩,⟨a⟩,⟨b⟩,⟨c⟩,⟨d⟩,⟨e⟩,⟨f⟩,⟨g⟩,⟨(xT g)⟩,?_⟩
 repeat' first
  | exact rfl
  | (refine And.intro ?_ ?_)
theorem Qdf:Ok Hc:=nM (tab:=[ou,uE,YB,T1]) (fn:=f46) (fI:=Qgh) (by grind [zA,RY,QmX,Qpi]) (by kernel_rfl) (by kernel_rfl) (λ_=>ZcY (by kernel_rfl)) λy a=>Eq.mp (Qev y) (Qpj y a)
def T5 (l:By) (s:RS) (i:Nat):RS:=Co (nu l) (dp l s 8) i
def rgC (l:By) (s:RS) (i:Nat):RS:=dp l (u9 l (T5 l s i)) 400
def rgN (l:By) (s:RS) (i:Nat):Int:=FU l (u9 l (T5 l s i)) 400
def rgT (l:By) (s:RS) (i k:Nat):List aX:=Ns (QaX l) (ov l) (rgC l s i) k
def Qw9 (x:dd) (v:AV D.E):List (AV D.E):=[.bool x.done,.int .i64 x.c0,.int .i64 x.c1,.int .i64 x.c2,.int .i64 x.c3,.int .i64 x.c4,.int .i64 x.c5,.int .i64 x.c6,.int .i64 x.c7,.int .i64 x.c8,.int .i64 x.c9,v]
def Mq:bh D:={ mM with f:=95,res:=λy=>.list 2 (fM y.1 y.2 true),dy:=λy=>zc y.1 (tA y.1 y.2) }
def QmY (y:Mq.Y):cH D:=⟨[],[],[(122,⟨Nat,[0,4],λi=>[(3,.grow 2 (Ns (Ha y.1 true) (nu y.1) (dp y.1 y.2 8) i) 1),(5,Qvo i)],[],λi=>zc y.1 (T5 y.1 y.2 i)++[(1,.tok 2 106)],2,λi=>i<=(FU y.1 y.2 8).toNat/\vX (nu y.1) (dp y.1 y.2 8) i,λi=>(FU y.1 y.2 8).toNat-i⟩)],
  [],1,
  [(125242,⟨Nat,λi=>⟨Nat,[0,3,4,5,6,7],λk=>[(8,Qvo k)],[1],λk=>zc y.1 (Co (ov y.1) (rgC y.1 y.2 i) k)++[(2,.cells (Qw9 (Ha y.1 true (T5 y.1 y.2 i)) (.grow 1 (rgT y.1 y.2 i k) 3)) 106 false),(3,.tok 1 179)],4,λk=>k<=(rgN y.1 y.2 i).toNat/\vX (ov y.1) (rgC y.1 y.2 i) k,λk=>(rgN y.1 y.2 i).toNat-k⟩,none⟩),
   (15655,⟨Nat,λi=>⟨Unit,[0,3,4,5,6],λ_=>[],[1],λ_=>zc y.1 (nu y.1 (T5 y.1 y.2 i))++[(2,.cells (dj 2 (Ha y.1 true (T5 y.1 y.2 i))) 106 false)],3,λ_=>True,λ_=>0⟩,none⟩)]⟩
def Qvt (y:Mq.Y):Prop:=lI [xQ,tB,xP,mM] f95 Mq QmY y
def JB:bh D:={ mM with f:=96,res:=λy=>.agg (QnQ (Sd y.1 y.2 true)),dy:=λy=>zc y.1 (kT y.1 y.2) }
def Qgm (_:JB.Y):cH D:=dY ()
def QqG (y:JB.Y):Prop:=lI [xN,mM,Mq] f96 JB Qgm y
def x3:bh D:={ mM with f:=52,res:=λy=>.agg (Qhu (F4 y.1 y.2 true)),dy:=λy=>zc y.1 (x6 y.1 y.2) }
def Qds (_:x3.Y):cH D:=dY ()
def QiZ (y:x3.Y):Prop:=lI [mM,tB,Mq,JB] f52 x3 Qds y
def Qb0 (y:Prod (List UInt8) RS):Prop:=let q0:=tA y.1 y.2;let q1:=fM y.1 y.2 true;let B:=dp y.1 y.2 (8:Int);let C:=FU y.1 y.2 (8:Int);let V:=Int.toNat C;(Iv (bw (y.1,y.2)))/\aa ([(8:Int)]:List Int) (aa [y.1] (aa [RS.at_ y.2,RS.an y.2] ((∃z:Nat,let q5:=T5 y.1 y.2 z;aa [C] ((([]:List dd)=(Ns (Ha y.1 true) (nu y.1) B z))/\((0:Int)=((z:Nat):Int))/\aa [y.1] (((RS.at_ B)=(RS.at_ q5))/\((RS.an B)=(RS.an q5))/\(Iv (((z:Nat)<=V)/\vX (nu y.1) B z)))))/\(∀x:Nat,let l:=T5 y.1 y.2 x;let f:=gS y.1 l;let q8:=aB (RS.an l) (0:Int);let q9:=aw ((x:Nat):Int) C;let j:=x5 y.1 f;let e:=Ns (Ha y.1 true) (nu y.1) B x;let E:=FU y.1 j (400:Int);let T:=dp y.1 j (400:Int);(Iv (((x:Nat)<=V)/\vX (nu y.1) B x))->((q9)->((q8)->(Iv (bw (y.1,l)))/\aa [y.1] (aa [RS.at_ l,RS.an l] ((Iv (bw (y.1,f)))/\aa [y.1] (aa [RS.at_ f,RS.an f] ((Iv (bw (y.1,j)))/\aa ([(400:Int)]:List Int) (aa [y.1] (aa [RS.at_ j,RS.an j] (∃z:Nat,let m:=T5 y.1 y.2 z;let F:=kP y.1 m;let b:=gS y.1 m;let g:=nu y.1 m;let G:=dc y.1 b 6;let H:=dc y.1 b 9;let I:=tD y.1 (u9 y.1 m) true;let J:=dc y.1 b 8;let K:=dc y.1 b 7;let L:=dc y.1 b 3;let M:=dc y.1 b 5;let N:=dc y.1 b 4;let O:=dc y.1 b 1;let P:=dc y.1 b 2;let Q:=dc y.1 b 0;let U:=bM e ((dd.mk F Q O P L N M G K J H I)::([]:List dd));(∃i:Nat,let R:=T5 y.1 y.2 i;let k:=Int.toNat (rgN y.1 y.2 i);let c:=gS y.1 R;let n:=kP y.1 R;let o:=dc y.1 c 5;let p:=dc y.1 c 8;let q:=dc y.1 c 7;let r:=dc y.1 c 6;let s:=dc y.1 c 2;let t:=dc y.1 c 4;let u:=dc y.1 c 3;let v:=dc y.1 c 0;let w:=dc y.1 c 1;let A:=dc y.1 c 9;let h:=dp y.1 (u9 y.1 R) (400:Int);(∃z2:Nat,let W:=Co (ov y.1) h z2;aa [e] (aa [C,((x:Nat):Int),E] (((0:Int)=((z2:Nat):Int))/\((kP y.1 l)=n)/\((dc y.1 f 0)=v)/\((dc y.1 f 1)=w)/\((dc y.1 f 2)=s)/\((dc y.1 f 3)=u)/\((dc y.1 f 4)=t)/\((dc y.1 f 5)=o)/\((dc y.1 f 6)=r)/\((dc y.1 f 7)=q)/\((dc y.1 f 8)=p)/\((dc y.1 f 9)=A)/\(([]:List aX)=(rgT y.1 y.2 i z2))/\aa [y.1] (((RS.at_ T)=(RS.at_ W))/\((RS.an T)=(RS.an W))/\(Iv (((z2:Nat)<=k)/\vX (ov y.1) h z2))))))/\(∀D:Nat,let S:=rgT y.1 y.2 i D;let d:=Co (ov y.1) h D;let X:=aw ((D:Nat):Int) E;let a:=db y.1 d;let Y:=aB (RS.an d) (0:Int);let Z:=x5 y.1 a;let q52:=bM S ((aX.mk (cJ y.1 d) (dc y.1 a 0) (dc y.1 a 1) (dc y.1 a 2) (dc y.1 a 3) (dc y.1 a 4) (dc y.1 a 5) (dc y.1 a 6) (dc y.1 a 7) (dc y.1 a 8) (dc y.1 a 9))::([]:List aX));(Iv (((D:Nat)<=k)/\vX (ov y.1) h D))->((X)->((Y)->(Iv (bw (y.1,d)))/\aa [y.1] (aa [RS.at_ d,RS.an d] ((Iv (bw (y.1,a)))/\aa [y.1] (aa [RS.at_ a,RS.an a] (((bJ (ag q52) 88))/\∃z2:Nat,let q53:=Co (ov y.1) h z2;aa [e] (aa [C,((x:Nat):Int),E] (((ay .i64 ((D:Nat):Int) (1:Int))=((z2:Nat):Int))/\aa [n] (aa [v,w,s,u,t,o,r,q,p,A] ((q52=(rgT y.1 y.2 i z2))/\aa [y.1] (((RS.at_ Z)=(RS.at_ q53))/\((RS.an Z)=(RS.an q53))/\(Iv ((((z2:Nat)<=k)/\vX (ov y.1) h z2)/\((k:Nat) -z2:Nat)<((k:Nat) -D)))))))))))))/\((Y=false)->∃z2:Unit,aa [e] (aa [C,((x:Nat):Int)] ((n=F)/\(v=Q)/\(w=O)/\(s=P)/\(u=L)/\(t=N)/\(o=M)/\(r=G)/\(q=K)/\(p=J)/\(A=H)/\(S=I)/\aa [y.1] (((RS.at_ d)=(RS.at_ g))/\((RS.an d)=(RS.an g))/\(Iv True))))))/\((X=false)->∃z2:Unit,aa [e] (aa [C,((x:Nat):Int)] ((n=F)/\(v=Q)/\(w=O)/\(s=P)/\(u=L)/\(t=N)/\(o=M)/\(r=G)/\(q=K)/\(p=J)/\(A=H)/\(S=I)/\aa [y.1] (((RS.at_ d)=(RS.at_ g))/\((RS.an d)=(RS.an g))/\(Iv True)))))))/\(∀D:Unit,(Iv True)->((bJ (ag U) 112))/\∃i:Nat,let q54:=T5 y.1 y.2 i;aa [C] ((U=(Ns (Ha y.1 true) (nu y.1) B i))/\((ay .i64 ((x:Nat):Int) (1:Int))=((i:Nat):Int))/\aa [y.1] (((RS.at_ g)=(RS.at_ q54))/\((RS.an g)=(RS.an q54))/\(Iv ((((i:Nat)<=V)/\vX (nu y.1) B i)/\((V:Nat) -i:Nat)<((V:Nat) -x))))))))))))))/\((q8=false)->(e=q1)/\aa [y.1] (((RS.at_ l)=(RS.at_ q0))/\((RS.an l)=(RS.an q0))/\True)))/\((q9=false)->(e=q1)/\aa [y.1] (((RS.at_ l)=(RS.at_ q0))/\((RS.an l)=(RS.an q0))/\True))))))
def Qgn:∀y,Qb0 y=Qvt y:=λy=>by kernel_rfl
def QaR (y:Prod (List UInt8) RS):Prop:=let c:=kT y.1 y.2;let q1:=kR y.1 y.2 (3:Int);let a:=u0 y.1 y.2 (3:Int);let b:=db y.1 a;let d:=tA y.1 b;(Iv (bw (y.1,y.2)))/\aa ([(3:Int)]:List Int) (aa [y.1] (aa [RS.at_ y.2,RS.an y.2] ((Iv (bw (y.1,a)))/\aa [y.1] (aa [RS.at_ a,RS.an a] ((Iv (bw (y.1,b)))/\aa [y.1] (aa [RS.at_ b,RS.an b] (aa [q1] (((cJ y.1 a)=(cJ y.1 (mK y.1 y.2)))/\((fM y.1 b true)=(fM y.1 (kS y.1 y.2) true))/\aa [y.1] (((RS.at_ d)=(RS.at_ c))/\((RS.an d)=(RS.an c))/\True)))))))))
def Qex:∀y,QaR y=QqG y:=λy=>by kernel_rfl
def T2 (y:Prod (List UInt8) RS):Prop:=let q:=cJ y.1 y.2;let q1:=sr y.1 y.2;let m:=x6 y.1 y.2;let j:=db y.1 y.2;let n:=wA y.1 y.2;let o:=xS y.1 y.2;let k:=db y.1 j;let p:=db y.1 n;let l:=kT y.1 q1;let r:=cJ y.1 j;let h:=kT y.1 l;let d:=gS y.1 k;let e:=gS y.1 d;let f:=db y.1 e;let g:=db y.1 f;let a:=tA y.1 g;let b:=kT y.1 a;let c:=kT y.1 b;let i:=kT y.1 c;(Iv (bw (y.1,y.2)))/\aa [y.1] (aa [RS.at_ y.2,RS.an y.2] ((Iv (bw (y.1,j)))/\aa [y.1] (aa [RS.at_ j,RS.an j] ((Iv (bw (y.1,k)))/\aa [y.1] (aa [RS.at_ k,RS.an k] ((Iv (bw (y.1,d)))/\aa [y.1] (aa [RS.at_ d,RS.an d] ((Iv (bw (y.1,e)))/\aa [y.1] (aa [RS.at_ e,RS.an e] ((Iv (bw (y.1,f)))/\aa [y.1] (aa [RS.at_ f,RS.an f] ((Iv (bw (y.1,g)))/\aa [y.1] (aa [RS.at_ g,RS.an g] ((Iv (bw (y.1,a)))/\aa [y.1] (aa [RS.at_ a,RS.an a] ((Iv (bw (y.1,b)))/\aa [y.1] (aa [RS.at_ b,RS.an b] ((Iv (bw (y.1,c)))/\aa [y.1] (aa [RS.at_ c,RS.an c,q,r] (((kP y.1 k)=(kP y.1 o))/\((kP y.1 d)=(kP y.1 (gS y.1 o)))/\((cJ y.1 e)=(cJ y.1 n))/\((cJ y.1 f)=(cJ y.1 p))/\((fM y.1 g true)=(fM y.1 (db y.1 p) true))/\((kR y.1 a (3:Int))=(kR y.1 q1 (3:Int)))/\((cJ y.1 (mK y.1 a))=(cJ y.1 (mK y.1 q1)))/\((fM y.1 (kS y.1 a) true)=(fM y.1 (kS y.1 q1) true))/\((kR y.1 b (3:Int))=(kR y.1 l (3:Int)))/\((cJ y.1 (mK y.1 b))=(cJ y.1 (mK y.1 l)))/\((fM y.1 (kS y.1 b) true)=(fM y.1 (kS y.1 l) true))/\((kR y.1 c (3:Int))=(kR y.1 h (3:Int)))/\((cJ y.1 (mK y.1 c))=(cJ y.1 (mK y.1 h)))/\((fM y.1 (kS y.1 c) true)=(fM y.1 (kS y.1 h) true))/\aa [y.1] (((RS.at_ i)=(RS.at_ m))/\((RS.an i)=(RS.an m))/\True)))))))))))))))))))))
def Qb3:∀y,T2 y=QiZ y:=λy=>by kernel_rfl
theorem R0 {tC:RS->RS}:zB tC (dp l s m) (tz l s m).toNat=zB tC (dp l s m) (FU l s m).toNat:=by
 by_cases h:(dp l s m).an≠0
 ·have e:FU l s m=0:=by grind [FU]
  have h0:zB tC (dp l s m) (tz l s m).toNat=0:=wy (i:=0) (tC:=tC) (s:=dp l s m) ω (λ_ h=>absurd h ω) (.inr (h));rw[e,h0];rfl
 ·grind [FU,tz]
theorem Qdt (h:bw (l,s)):FU l s m<=max m 0:=by
 have⟨_,_,_,_,a⟩:=pP (m:=m) h;grind [FU]
theorem Qvu (y:By×RS) (w:Mq.pre y):Qb0 y:=by
 have⟨l,s⟩:=y;have j:=w;have z:=Qdt (m:=8) j;unfold Qb0;simp only[bL,dw,Zai,au,aT,br];refine⟨⟨j⟩,⟨0,rfl,rfl,rfl,rfl,Zaj _,λ_ h=>absurd h ω⟩,λx p=>?_⟩;have e:=p.out.1;have b:=p.out.2;have o:bw (l,T5 l s x):=BD (tC:=nu l) (λs h=>RZ h) (xR (m:=8) j) x;have hl:(Ns (Ha l true) (nu l) (dp l s 8) x).length=x:=C_ x;have n:=BC (ph o);have v:=Qdt (m:=400) n;refine⟨λh1=>⟨λf=>⟨⟨o⟩,⟨ph o⟩,⟨n⟩,x,⟨x,⟨0,rfl,?_⟩,λk hk=>?_⟩,λ_ _=>⟨?_,x+1,?_,?_,rfl,rfl,⟨ω,Cm b f⟩,ω⟩⟩,λf=>?_⟩,λh1=>?_⟩
 ·repeat' first
   | exact rfl
   | exact⟨Zaj _,λ_ h=>absurd h ω⟩
   | (refine And.intro ?_ ?_)
 ·have c:=hk.out.1;have a:=hk.out.2;have t:(rgN l s x)=FU l (x5 l (gS l (T5 l s x))) 400:=rfl;have d:=BD (tC:=ov l) (λs h=>YA h) (xR (m:=400) n) k;have u:(rgT l s x k).length=k:=C_ k;refine⟨λr=>⟨λg=>⟨⟨d⟩,⟨(jr d).1⟩,?_,k+1,?_,?_,rfl,rfl,⟨ω,Cm a g⟩,ω⟩,λg=>⟨(),?_⟩⟩,λr=>⟨(),?_⟩⟩
  ·grind
  ·grind
  ·exact(Mm k).symm
  ·have i:zB (ov l) (rgC l s x) (tz l (u9 l (T5 l s x)) 400).toNat=k:=(R0).trans (wy c a (.inr g));have q:rgT l s x k=tD l (u9 l (T5 l s x)) true:=by unfold tD;rw[Zaa (by simp)];show _=Ns _ _ (rgC l s x) (zB (ov l) (rgC l s x) _);rw[i];rfl
   have e2:Co (ov l) (dp l (u9 l (T5 l s x)) 400) k=nu l (T5 l s x):=by grind [nu,zT,rgC]
   grind
  ·have i:zB (ov l) (rgC l s x) (tz l (u9 l (T5 l s x)) 400).toNat=k:=(R0).trans (wy c a (.inl (by grind [rgN])));have q:rgT l s x k=tD l (u9 l (T5 l s x)) true:=by unfold tD;rw[Zaa (by simp)];show _=Ns _ _ (rgC l s x) (zB (ov l) (rgC l s x) _);rw[i];rfl
   have e2:Co (ov l) (dp l (u9 l (T5 l s x)) 400) k=nu l (T5 l s x):=by grind [nu,zT,rgC]
   grind
 ·grind
 ·exact(Mm x).symm
 ·grind
 ·unfold fM tA;rw[((R0).trans (wy e b (.inr f))),Zaa (by simp)];exact⟨rfl,rfl,rfl⟩
 ·unfold fM tA;rw[((R0).trans (wy e b (.inl ω))),Zaa (by simp)];exact⟨rfl,rfl,rfl⟩
theorem Qgq:Ok Mq:=nM (tab:=[xQ,tB,xP,mM]) (fn:=f95) (fI:=QmY) (by grind [Qgf,Mh,Qge,uF]) (by kernel_rfl) (by kernel_rfl) (λ_=>ZcY (by kernel_rfl)) λy a=>Eq.mp (Qgn y) (Qvu y a)
def Qry (y:By×RS) (a:JB.pre y):QaR y:=by
 have h:=a;have h1:=Mn (m:=3) h;unfold QaR;simp only[dw,Zai];exact⟨⟨h⟩,⟨h1⟩,⟨(jr h1).1⟩,rfl,rfl,rfl,rfl⟩
theorem Qjh:Ok JB:=nM (tab:=[xN,mM,Mq]) (fn:=f96) (fI:=Qgm) (by grind [Qf9,uF,Qgq]) (by kernel_rfl) (by kernel_rfl) (λ_=>ZcY (by kernel_rfl)) λy a=>Eq.mp (Qex y) (Qry y a)
def Qji (y:By×RS) (i:x3.pre y):T2 y:=by
 have h:=i;have h1:=(jr h).1;have a:=(jr h1).1;have b:=ph a;have c:=ph b;have d:=(jr c).1;have e:=(jr d).1;have f:=Mo e;have g:=xT f;unfold T2;simp only[dw,Zai];refine⟨⟨h⟩,⟨h1⟩,⟨a⟩,⟨b⟩,⟨c⟩,⟨d⟩,⟨e⟩,⟨f⟩,⟨g⟩,⟨(xT g)⟩,?_⟩
 repeat' first
  | exact rfl
  | (refine And.intro ?_ ?_)
theorem QaY:Ok x3:=nM (tab:=[mM,tB,Mq,JB]) (fn:=f52) (fI:=Qds) (by grind [uF,Mh,Qgq,Qjh]) (by kernel_rfl) (by kernel_rfl) (λ_=>ZcY (by kernel_rfl)) λy a=>Eq.mp (Qb3 y) (Qji y a)
def qP (l:By) (s:RS):Int:=if s.an=0/\s.at_<l.length then 5 else s.an
def Qgr:bh D:={ ou with f:=47,pre:=λ_=>True,res:=λy=>Qvo (qP y.1 y.2),dy:=λy=>RT y.1 ⟨y.2.at_,qP y.1 y.2⟩ }
def QrE:bh D:={ mM with f:=53,pre:=λ_=>True,res:=λy=>Qvo (qP y.1 y.2),dy:=λy=>zc y.1 ⟨y.2.at_,qP y.1 y.2⟩ }
def pd0:RS:=⟨0,0⟩
def pd1 (l:By):RS:=gS l pd0
def pd2 (l:By):RS:=db l (pd1 l)
def T3 (l:By):RS:=db l (pd2 l)
def Cl (l:By):RS:=db l (T3 l)
def pd5 (l:By):RS:=eB l (Cl l) 16
def xM (l:By):RS:=eB l (pd5 l) 4294967295
def pd7 (l:By):RS:=x6 l (xM l)
def Qgt (x:bd):FN:=⟨⟨x.at_,x.bN,x.ch,x.opened,x.bj,x.size,x.aS⟩,⟨x.a8.held,x.a8.aI,x.a8.lists⟩,⟨x.aH.held,x.aH.aI,x.aH.lists⟩,⟨x.aZ.held,x.aZ.aI,x.aZ.lists⟩⟩
def sa0:FN:=⟨⟨0,0,false,false,0,0,[]⟩,⟨[],0,[]⟩,⟨[],0,[]⟩,⟨[],0,[]⟩⟩
def x9:lN:=⟨false,0,0,0,0,sa0⟩
def pdA (l:By):lN:=⟨true,cJ l (pd1 l),cJ l (pd2 l),fV l (Cl l) 16,jP .u32 (fV l (pd5 l) 4294967295),Qgt (F4 l (xM l) false)⟩
def pdN (l:By):lN:=⟨false,cJ l (pd1 l),cJ l (pd2 l),0,0,sa0⟩
def pdE (l:By) (e:Int) (p:lN) (w:lN->Bool):lN×Int:=if e≠0 then(x9,e) else if w p=true then(p,0) else(x9,4)
def pdF (h:Option Int) (w:lN->Bool) (l:By):lN×Int:=
 if kP l pd0=true then
  if (Cl l).an=0/\h≠some (cJ l (T3 l)) then(x9,11) else pdE l (qP l (pd7 l)) (pdA l) w
 else pdE l (qP l (T3 l)) (pdN l) w
def mJ (y:j8×By):lN×Int:=lk (pdF (some (qJ y.1.s)) (λp=>gE (y.1,p)) y.2)
def qM (l:By):lN×Int:=lk (pdF none gP l)
def pdT (x:lN×Int):AV D.E:=.tuple [.agg (O3 x.1),.int .i64 x.2]
def Qxb (a:List (AV D.E)) (s:St D.E):C (j8×By):=match a with
 | [r,t]=>az (Qfx r s) λr=>az (fY t) λt=>.ret (r,t)
 | _=>.fail
def Qxc (a:List (AV D.E)) (s:St D.E):C (j8×By):=match a with
 | [r,t]=>az (QfM r s) λr=>az (fY t) λt=>.ret (r,t)
 | _=>.fail
def Qvv (a:List (AV D.E)) (_:St D.E):C By:=match a with
 | [r,t]=>match r with
  | .fT=>fY t
  | _=>.fail
 | _=>.fail
def qh (p:lN) (c:Int) (x:lN×Int) (r:Prop):Prop:=p.live=x.1.live/\p.a=x.1.a/\p.b=x.1.b/\p.c=x.1.c/\p.d=x.1.d/\p.x.st.pos=x.1.x.st.pos/\p.x.st.bN=x.1.x.st.bN/\p.x.st.ch=x.1.x.st.ch/\p.x.st.jH=x.1.x.st.jH/\p.x.st.bj=x.1.x.st.bj/\p.x.st.size=x.1.x.st.size/\p.x.st.aS=x.1.x.st.aS/\p.x.a8.h=x.1.x.a8.h/\p.x.a8.m=x.1.x.a8.m/\p.x.a8.L=x.1.x.a8.L/\p.x.aH.h=x.1.x.aH.h/\p.x.aH.m=x.1.x.aH.m/\p.x.aH.L=x.1.x.aH.L/\p.x.aZ.h=x.1.x.aZ.h/\p.x.aZ.m=x.1.x.aZ.m/\p.x.aZ.L=x.1.x.aZ.L/\c=x.2/\r
def pdP (y:j8×By):Prop:=y.2.length<=1000000/\y8 y.1.s/\∀p:lN,Nr p.x->WK (C9 y.1 p)
def Qvw (y:j8×By):Prop:=y.2.length<=1000000/\y8 y.1.s/\∀p:lN,Nr p.x->y7 (C9 y.1 p)
def QjR:bh D:=⟨14,j8×By,Qxb,pdP,λy=>[.ptr 0 0,.str y.2],λy=>IU y.1,λy=>pdT (mJ y),λy=>IU y.1,3,3⟩
def Qka:bh D:=bO 14 By Qvv (λy=>y.length<=1073741824) (λy=>[.fT,.str y]) λy=>pdT (qM y)
def Qkd:bh D:=⟨15,j8×By,Qxc,Qvw,λy=>[.ptr 0 0,.str y.2],λy=>XP y.1,λy=>pdT (mJ y),λy=>XP y.1,1,1⟩
def Qko:bh D:=bO 15 By Qvv (λy=>y.length<=1073741824) (λy=>[.fT,.str y]) λy=>pdT (qM y)
def Qku:bh D:=bO 16 lN (λa s=>match a with
 | [m,_]=>QaP m s
 | _=>.fail) (λy=>Nr y.x) (λy=>[.agg (O3 y),.agg (O3 y)]) λ_=>.lit true
def QkE:bh D:=bO 4 (cj×By) (λ_ _=>.fail) (λy=>QfT y.1) (λy=>[CM y.1,.str y.2]) λ_=>.lit true
def Qxi:s7:=[QfR,QfS,QjR,Qka,Qkd,Qko,Qku]
def Qm0 (y:lN):Prop:=let e:=oD y.live y.live;let q1:=(aB y.c y.c)&&(aB y.d y.d);aj e (aj (aB y.a y.a) (aj (aB y.b y.b) (aj q1 (Iv (Nr y.x)/\RA2 y.x.st (RA1 y.x.a8 (RA1 y.x.aH (RA1 y.x.aZ (RA2 y.x.st (RA1 y.x.a8 (RA1 y.x.aH (RA1 y.x.aZ (True))))))))) (False)) (False)) (False)) (False)
def Qm1 (y:cj×(List UInt8)):Prop:=let g:=b9 (jU y.1);let q1:=(qM y.2).1;let o:=aw 3000 (dD y.2);let e:=mJ (lM y.1,y.2);let l:=aB (qM y.2).2 (qM y.2).2;let q:=ite (3<y.1.r.length) (List.take 3 y.1.r) y.1.r;let n:=(j8.mk (cj.mk q y.1.c) (iC.mk g.af g.st) (iC.mk g.cc g.cs) [],y.2);let f:=(mJ n).1;let s:=aB e.2 (mJ n).2;let i:=λp:Prop=>aa [y.2] p;let k:=λp:Prop=>aa [q1.live] (aa [q1.a,q1.b,q1.c,q1.d,q1.x.st.pos,q1.x.st.bN] (aa [q1.x.st.ch,q1.x.st.jH] (aa [q1.x.st.bj,q1.x.st.size] (aa [q1.x.st.aS] (aa [q1.x.a8.h] (aa [q1.x.a8.m] (aa [q1.x.a8.L] (aa [q1.x.aH.h] (aa [q1.x.aH.m] (aa [q1.x.aH.L] (aa [q1.x.aZ.h] (aa [q1.x.aZ.m] (aa [q1.x.aZ.L] (aa [q1.live] (aa [q1.a,q1.b,q1.c,q1.d,q1.x.st.pos,q1.x.st.bN] (aa [q1.x.st.ch,q1.x.st.jH] (aa [q1.x.st.bj,q1.x.st.size] (aa [q1.x.st.aS] (aa [q1.x.a8.h] (aa [q1.x.a8.m] (aa [q1.x.a8.L] (aa [q1.x.aH.h] (aa [q1.x.aH.m] (aa [q1.x.aH.L] (aa [q1.x.aZ.h] (aa [q1.x.aZ.m] (aa [q1.x.aZ.L] p)))))))))))))))))))))))))));let j:Prop:=(Iv (Nr q1.x)/\k (Iv True/\True));aj (ldK y.1) (Iv (W2 (y.1,true))/\aa [y.1.r] (aa [y.1.c] (aj o (Iv True/\True) (Iv (pdP (lM y.1,y.2))/\i (sQ (lM y.1) (Iv (Qvw n)/\aa [y.2] (aa [q] (aa [y.1.c] (aa [g.af] (aa [g.st] (aa [g.cc] (aa [g.cs] (aa [!(seq y.1.c [])] (Iv (y.2.length<=1073741824)/\i (Iv (y.2.length<=1073741824)/\i (aj s (aj l (Iv (Nr e.1.x)/\aa [e.1.live] (aa [e.1.a,e.1.b,e.1.c,e.1.d,e.1.x.st.pos,e.1.x.st.bN] (aa [e.1.x.st.ch,e.1.x.st.jH] (aa [e.1.x.st.bj,e.1.x.st.size] (aa [e.1.x.st.aS] (aa [e.1.x.a8.h] (aa [e.1.x.a8.m] (aa [e.1.x.a8.L] (aa [e.1.x.aH.h] (aa [e.1.x.aH.m] (aa [e.1.x.aH.L] (aa [e.1.x.aZ.h] (aa [e.1.x.aZ.m] (aa [e.1.x.aZ.L] (f.live=e.1.live/\f.a=e.1.a/\f.b=e.1.b/\f.c=e.1.c/\f.d=e.1.d/\f.x.st.pos=e.1.x.st.pos/\f.x.st.bN=e.1.x.st.bN/\f.x.st.ch=e.1.x.st.ch/\f.x.st.jH=e.1.x.st.jH/\f.x.st.bj=e.1.x.st.bj/\f.x.st.size=e.1.x.st.size/\f.x.st.aS=e.1.x.st.aS/\f.x.a8.h=e.1.x.a8.h/\f.x.a8.m=e.1.x.a8.m/\f.x.a8.L=e.1.x.a8.L/\f.x.aH.h=e.1.x.aH.h/\f.x.aH.m=e.1.x.aH.m/\f.x.aH.L=e.1.x.aH.L/\f.x.aZ.h=e.1.x.aZ.h/\f.x.aZ.m=e.1.x.aZ.m/\f.x.aZ.L=e.1.x.aZ.L/\j))))))))))))))) (False)) (False))))))))))))))))) (Iv (W2 (y.1,false))/\aa [y.1.r] (aa [y.1.c] (aj o (Iv True/\True) (Iv (y.2.length<=1073741824)/\i (Iv (y.2.length<=1073741824)/\i (Iv (y.2.length<=1073741824)/\i (Iv (y.2.length<=1073741824)/\i (aj l (aj l (Iv (Nr q1.x)/\k (j)) (False)) (False)))))))))
def QdS (y:(List UInt8)×RS):Prop:=let a:=aw y.2.at_ (ag y.1);let q1:Prop:=(y.2.an=qP y.1 y.2/\aa [y.1] (aa [y.2.at_] (y.2.an=qP y.1 y.2/\True)));aj (aB y.2.an 0) (aa [y.2.an,y.2.at_] (aa [y.1] (aj a (5=qP y.1 y.2/\aa [y.1] (aa [y.2.at_] (5=qP y.1 y.2/\True))) (q1)))) (aa [y.2.an] (q1))
def Qm2 (y:j8×(List UInt8)):Prop:=let T:=(mJ y).1;let q1:=(mJ y).2;let q:=gS y.2 (RS.mk 0 0);let A:=kP y.2 (RS.mk 0 0);let M:=cJ y.2 q;let K:=db y.2 q;let N:=cJ y.2 K;let j:=db y.2 K;let f:=db y.2 j;let S:=!(aB (qP y.2 j) 0);let O:=!(aB (cJ y.2 j) (qJ y.1.s));let k:=fV y.2 f 16;let b:=eB y.2 f 16;let a:=eB y.2 b 4294967295;let l:=jP .u32 (fV y.2 b 4294967295);let c:=sr y.2 a;let m:=cJ y.2 a;let d:=x6 y.2 a;let n:=db y.2 (wA y.2 a);let o:=cJ y.2 (db y.2 a);let e:=kT y.2 c;let r:=cJ y.2 (wA y.2 a);let t:=kP y.2 (xS y.2 a);let u:=kR y.2 c 3;let v:=kP y.2 (gS y.2 (xS y.2 a));let w:=cJ y.2 n;let x:=cJ y.2 (mK y.2 c);let g:=kT y.2 e;let z:=fM y.2 (kS y.2 c) false;let P:=!(aB (qP y.2 d) 0);let B:=kR y.2 e 3;let C:=cJ y.2 (mK y.2 e);let D:=fM y.2 (db y.2 n) false;let E:=fM y.2 (kS y.2 e) false;let F:=kR y.2 g 3;let G:=cJ y.2 (mK y.2 g);let H:=fM y.2 (kS y.2 g) false;let h:=lN.mk A M N 0 0 (FN.mk (VE.mk 0 0 false false 0 0 []) (Dh.mk [] 0 []) (Dh.mk [] 0 []) (Dh.mk [] 0 []));let Q:=!(gE (y.1,h));let i:=lN.mk A M N k l (FN.mk (VE.mk m o t v r w D) (Dh.mk u x z) (Dh.mk B C E) (Dh.mk F G H));let R:=!(gE (y.1,i));let L:=λp:Prop=>aa [y.2] (aa [j.at_,j.an] p);let I:Prop:=(qh x9 4 (mJ y) (sQ y.1 (True)));let J:Prop:=(Iv (bw (y.2,f))/\aa ([16]:List Int) (aa [y.2] (aa [f.at_,f.an] (Iv (bw (y.2,b))/\aa ([4294967295]:List Int) (aa [y.2] (aa [b.at_,b.an] (Iv (bw (y.2,a))/\aa [y.2] (aa [a.at_,a.an] (Iv True/\aa [y.2] (aa [d.at_,d.an] (aj P (qh x9 (qP y.2 d) (mJ y) (sQ y.1 (True))) (Iv (WK (C9 y.1 i))/\aa [A] (aa [M,N,k,l,m,o] (aa [t,v] (aa [r,w] (aa [D] (aa [u] (aa [x] (aa [z] (aa [B] (aa [C] (aa [E] (aa [F] (aa [G] (aa [H] (sQ y.1 (aj R (I) (qh i 0 (mJ y) (sQ y.1 (True))))))))))))))))))))))))))))));Iv (y.2.length<=1073741824)/\aa [y.2] (Iv (bw (y.2,RS.mk 0 0))/\aa [y.2] (aa ([0,0]:List Int) (Iv (bw (y.2,q))/\aa [y.2] (aa [q.at_,q.an] (Iv (bw (y.2,K))/\aa [y.2] (aa [K.at_,K.an] (aj A (Iv (bw (y.2,j))/\L (Iv True/\aa [y.2] (aa [f.at_,f.an] (aj (aB f.an 0) (Iv (y8 y.1.s)/\sQ y.1 (aj O (qh x9 11 (mJ y) (sQ y.1 (True))) (J))) (J))))) (Iv True/\L (aj S (qh x9 (qP y.2 j) (mJ y) (sQ y.1 (True))) (Iv (WK (C9 y.1 h))/\aa [A] (aa ([M,N,0,0,0,0]:List Int) (false=false/\false=false/\aa ([0,0]:List Int) (aa ([[]]:List (List dd)) (aa ([[]]:List (List UInt8)) (aa ([0]:List Int) (aa ([[]]:List (List dd)) (aa ([[]]:List (List UInt8)) (aa ([0]:List Int) (aa ([[]]:List (List dd)) (aa ([[]]:List (List UInt8)) (aa ([0]:List Int) (aa ([[]]:List (List dd)) (sQ y.1 (aj Q (I) (qh h 0 (mJ y) (sQ y.1 (True)))))))))))))))))))))))))))
def Qm3 (y:List UInt8):Prop:=let M:=(qM y).2;let q1:=(qM y).1;let E:=gS y (RS.mk 0 0);let u:=kP y (RS.mk 0 0);let B:=cJ y E;let G:=db y E;let C:=cJ y G;let e:=db y G;let f:=db y e;let H:=eB y f 16;let I:=!(aB (qP y e) 0);let g:=fV y f 16;let a:=eB y H 4294967295;let h:=jP .u32 (fV y H 4294967295);let i:=cJ y a;let b:=sr y a;let c:=x6 y a;let d:=kT y b;let j:=cJ y (db y a);let D:=db y (wA y a);let k:=cJ y (wA y a);let l:=kP y (xS y a);let m:=cJ y D;let n:=cJ y (mK y b);let o:=kT y d;let p:=kP y (gS y (xS y a));let q:=fM y (kS y b) false;let r:=cJ y (mK y d);let s:=kR y b 3;let t:=fM y (db y D) false;let v:=fM y (kS y d) false;let w:=cJ y (mK y o);let J:=!(aB (qP y c) 0);let x:=kR y d 3;let z:=fM y (kS y o) false;let A:=kR y o 3;let N:=lN.mk u B C 0 0 (FN.mk (VE.mk 0 0 false false 0 0 []) (Dh.mk [] 0 []) (Dh.mk [] 0 []) (Dh.mk [] 0 []));let K:=!(gP N);let O:=lN.mk u B C g h (FN.mk (VE.mk i j l p k m t) (Dh.mk s n q) (Dh.mk x r v) (Dh.mk A w z));let L:=!(gP O);let F:Prop:=(qh x9 4 (qM y) (True));Iv (y.length<=1073741824)/\RAG y (Iv (bw (y,RS.mk 0 0))/\aa [y] (aa ([0,0]:List Int) (Iv (bw (y,E))/\aa [y] (aa [E.at_,E.an] (Iv (bw (y,G))/\aa [y] (aa [G.at_,G.an] (aj u (Iv (bw (y,e))/\aa [y] (aa [e.at_,e.an] (Iv True/\aa [y] (aa [f.at_,f.an] (aj (aB f.an 0) (qh x9 11 (qM y) (True)) (Iv (bw (y,f))/\aa ([16]:List Int) (aa [y] (aa [f.at_,f.an] (Iv (bw (y,H))/\aa ([4294967295]:List Int) (aa [y] (aa [H.at_,H.an] (Iv (bw (y,a))/\aa [y] (aa [a.at_,a.an] (Iv True/\aa [y] (aa [c.at_,c.an] (aj J (qh x9 (qP y c) (qM y) (True)) (Iv True/\aa [u] (aa [B,C,g,h,i,j] (aa [l,p] (aa [k,m] (aa [t] (aa [s] (aa [n] (aa [q] (aa [x] (aa [r] (aa [v] (aa [A] (aa [w] (aa [z] (aj L (F) (qh O 0 (qM y) (True))))))))))))))))))))))))))))))))) (Iv True/\aa [y] (aa [e.at_,e.an] (aj I (qh x9 (qP y e) (qM y) (True)) (Iv True/\aa [u] (aa ([B,C,0,0,0,0]:List Int) (false=false/\false=false/\aa ([0,0]:List Int) (aa ([[]]:List (List dd)) (aa ([[]]:List (List UInt8)) (aa ([0]:List Int) (aa ([[]]:List (List dd)) (aa ([[]]:List (List UInt8)) (aa ([0]:List Int) (aa ([[]]:List (List dd)) (aa ([[]]:List (List UInt8)) (aa ([0]:List Int) (aa ([[]]:List (List dd)) (aj K (F) (qh N 0 (qM y) (True))))))))))))))))))))))))))
def Qm4 (y:j8×(List UInt8)):Prop:=let q0:=(mJ y).1;let q1:=(mJ y).2;let W:=!(seq y.1.s.c []);let C:=kP y.2 (RS.mk 0 0);let L:=gS y.2 (RS.mk 0 0);let R:=j8.mk y.1.s y.1.p y.1.q [];let S:=cJ y.2 L;let P:=db y.2 L;let T:=cJ y.2 P;let i:=db y.2 P;let b:=db y.2 i;let U:=!(aB (qP y.2 i) 0);let V:=!(aB (cJ y.2 i) (qJ y.1.s));let m:=fV y.2 b 16;let e:=eB y.2 b 16;let a:=eB y.2 e 4294967295;let n:=jP .u32 (fV y.2 e 4294967295);let f:=sr y.2 a;let o:=cJ y.2 a;let g:=x6 y.2 a;let t:=db y.2 (wA y.2 a);let u:=kP y.2 (xS y.2 a);let v:=cJ y.2 (db y.2 a);let h:=kT y.2 f;let w:=cJ y.2 (wA y.2 a);let x:=kR y.2 f 3;let z:=cJ y.2 (mK y.2 f);let j:=kT y.2 h;let A:=cJ y.2 t;let B:=kP y.2 (gS y.2 (xS y.2 a));let D:=fM y.2 (kS y.2 f) true;let X:=!(aB (qP y.2 g) 0);let E:=cJ y.2 (mK y.2 h);let F:=kR y.2 h 3;let G:=fM y.2 (kS y.2 h) true;let H:=fM y.2 (db y.2 t) true;let I:=kR y.2 j 3;let J:=cJ y.2 (mK y.2 j);let K:=fM y.2 (kS y.2 j) true;let k:=lN.mk C S T 0 0 (FN.mk (VE.mk 0 0 false false 0 0 []) (Dh.mk [] 0 []) (Dh.mk [] 0 []) (Dh.mk [] 0 []));let Y:=!(gE (R,k));let l:=lN.mk C S T m n (FN.mk (VE.mk o v u B w A H) (Dh.mk x z D) (Dh.mk F E G) (Dh.mk I J K));let Z:=!(gE (R,l));let Q:=λp:Prop=>aa [y.2] (aa [i.at_,i.an] p);let d:Prop:=(aa [y.1.s.r] (aa [y.1.s.c] (IV y.1 (aa [W] (True)))));let M:Prop:=(qh x9 4 (mJ y) (d));let N:Prop:=(Iv True/\Q (aj U (qh x9 (qP y.2 i) (mJ y) (d)) (Iv (y7 (C9 R k))/\aa [C] (aa ([S,T,0,0,0,0]:List Int) (false=false/\false=false/\aa ([0,0]:List Int) (aa ([[]]:List (List dd)) (aa ([[]]:List (List UInt8)) (aa ([0]:List Int) (aa ([[]]:List (List dd)) (aa ([[]]:List (List UInt8)) (aa ([0]:List Int) (aa ([[]]:List (List dd)) (aa ([[]]:List (List UInt8)) (aa ([0]:List Int) (aa ([[]]:List (List dd)) (aa [y.1.s.r] (aa [y.1.s.c] (IV y.1 (aa [W] (aj Y (M) (qh k 0 (mJ y) (d))))))))))))))))))))));let O:Prop:=(Iv (bw (y.2,b))/\aa ([16]:List Int) (aa [y.2] (aa [b.at_,b.an] (Iv (bw (y.2,e))/\aa ([4294967295]:List Int) (aa [y.2] (aa [e.at_,e.an] (Iv (bw (y.2,a))/\aa [y.2] (aa [a.at_,a.an] (Iv True/\aa [y.2] (aa [g.at_,g.an] (aj X (qh x9 (qP y.2 g) (mJ y) (d)) (Iv (y7 (C9 R l))/\aa [C] (aa [S,T,m,n,o,v] (aa [u,B] (aa [w,A] (aa [H] (aa [x] (aa [z] (aa [D] (aa [F] (aa [E] (aa [G] (aa [I] (aa [J] (aa [K] (aa [y.1.s.r] (aa [y.1.s.c] (IV y.1 (aa [W] (aj Z (M) (qh l 0 (mJ y) (d))))))))))))))))))))))))))))))));Iv (y.2.length<=1073741824)/\aa [y.2] (Iv (bw (y.2,RS.mk 0 0))/\aa [y.2] (aa ([0,0]:List Int) (Iv (bw (y.2,L))/\aa [y.2] (aa [L.at_,L.an] (Iv (bw (y.2,P))/\aa [y.2] (aa [P.at_,P.an] (aj (aB i.an 0) (aj C (Iv (bw (y.2,i))/\Q (aj (aB b.an 0) (Iv (y8 y.1.s)/\aa [y.1.s.r] (aa [y.1.s.c] (aj V (qh x9 11 (mJ y) (d)) (O)))) (O))) (N)) (N))))))))
def Qm5 (y:List UInt8):Prop:=let N:=(qM y).1;let q1:=(qM y).2;let E:=gS y (RS.mk 0 0);let t:=kP y (RS.mk 0 0);let H:=db y E;let A:=cJ y E;let B:=cJ y H;let e:=db y H;let C:=db y e;let I:=eB y C 16;let f:=fV y C 16;let J:=!(aB (qP y e) 0);let a:=eB y I 4294967295;let g:=jP .u32 (fV y I 4294967295);let h:=cJ y a;let b:=sr y a;let c:=x6 y a;let D:=db y (wA y a);let i:=cJ y (wA y a);let j:=kP y (xS y a);let d:=kT y b;let k:=cJ y (db y a);let l:=kP y (gS y (xS y a));let m:=kT y d;let n:=cJ y D;let o:=cJ y (mK y b);let p:=fM y (kS y b) true;let q:=cJ y (mK y d);let r:=kR y b 3;let s:=fM y (db y D) true;let u:=fM y (kS y d) true;let v:=cJ y (mK y m);let w:=kR y d 3;let x:=fM y (kS y m) true;let K:=!(aB (qP y c) 0);let z:=kR y m 3;let O:=lN.mk t A B 0 0 (FN.mk (VE.mk 0 0 false false 0 0 []) (Dh.mk [] 0 []) (Dh.mk [] 0 []) (Dh.mk [] 0 []));let L:=!(gP O);let U:=lN.mk t A B f g (FN.mk (VE.mk h k j l i n s) (Dh.mk r o p) (Dh.mk w q u) (Dh.mk z v x));let M:=!(gP U);let F:Prop:=(qh x9 4 (qM y) (True));let G:Prop:=(Iv True/\RAI y e.at_ e.an (aj J (qh x9 (qP y e) (qM y) (True)) (Iv True/\aa [t] (aa ([A,B,0,0,0,0]:List Int) (false=false/\false=false/\aa ([0,0]:List Int) (aa ([[]]:List (List dd)) (aa ([[]]:List (List UInt8)) (aa ([0]:List Int) (aa ([[]]:List (List dd)) (aa ([[]]:List (List UInt8)) (aa ([0]:List Int) (aa ([[]]:List (List dd)) (aa ([[]]:List (List UInt8)) (aa ([0]:List Int) (aa ([[]]:List (List dd)) (aj L (F) (qh O 0 (qM y) (True))))))))))))))))));Iv (y.length<=1073741824)/\RAG y (Iv (bw (y,RS.mk 0 0))/\aa [y] (aa ([0,0]:List Int) (Iv (bw (y,E))/\aa [y] (aa [E.at_,E.an] (Iv (bw (y,H))/\aa [y] (aa [H.at_,H.an] (aj (aB e.an 0) (aj t (Iv (bw (y,e))/\aa [y] (aa [e.at_,e.an] (aj (aB C.an 0) (qh x9 11 (qM y) (True)) (Iv (bw (y,C))/\aa ([16]:List Int) (aa [y] (aa [C.at_,C.an] (Iv (bw (y,I))/\aa ([4294967295]:List Int) (aa [y] (aa [I.at_,I.an] (Iv (bw (y,a))/\aa [y] (aa [a.at_,a.an] (Iv True/\aa [y] (aa [c.at_,c.an] (aj K (qh x9 (qP y c) (qM y) (True)) (Iv True/\aa [t] (aa [A,B,f,g,h,k] (aa [j,l] (aa [i,n] (aa [s] (aa [r] (aa [o] (aa [p] (aa [w] (aa [q] (aa [u] (aa [z] (aa [v] (aa [x] (aj M (F) (qh U 0 (qM y) (True))))))))))))))))))))))))))))))) (G)) (G))))))))
end
end sx
namespace sx
open Go Go.RowKit cls syn
set_option maxRecDepth 100000
variable {Z:RS->RS}
def Ck (f:RS->RS):Prop:=∀s,s.an≠0->f s=s
def Ck.zero (h:Ck Z) {s:RS} (h0:(Z s).an=0):s.an=0:=by
 by_cases e:s.an=0
 ·exact e
 ·rw[h s e] at h0;exact h0
def Ck.comp {g:RS->RS} (h:Ck Z) (k:Ck g):Ck λs=>Z (g s):=λs e=>by
 have:=k s e;show Z (g s)=s
 rw[this,h s e]
theorem tE (l:By):Ck (db l):=λs e=>by grind [db,QfX]
def T8 (l:By):Ck (gS l):=λs e=>by
 unfold gS T6;rw[tE l s e,Zaa (λh=>e h.1)]
theorem Ek (l:By) (m:Int):Ck λs=>eB l s m:=λs e=>by
 show eB l s m=s
 unfold eB T7;rw[tE l s e,Zaa (λh=>e h.1)]
theorem QeZ (l:By) (m:Int):Ck λs=>u0 l s m:=λs e=>by
 grind [Ek,u0,R7]
theorem QgT (l:By) (m:Int):Ck λs=>dp l s m:=λs e=>by
 grind [Ek,dp]
theorem Ql0 {s:RS} (e:s.an≠0) (n:Nat):zB Z s n=0:=wy (i:=0) ω (λ_ h=>absurd h ω) (.inr e)
theorem Qe9 {l:By} {m:Int} {n:RS->Nat}:Ck λs=>Co Z (dp l s m) (zB Z (dp l s m) (n s)):=λs e=>by
 grind [QgT,Co,Ql0]
def T9 (l:By):Ck (tA l):=Qe9
def w9 (l:By):Ck (kT l):=(T9 l).comp ((tE l).comp (QeZ l 3))
section
variable {tC:RS->RS} {s:RS}
theorem QgU (n:Nat):zB tC s n<=n:=by
 induction n with
 | zero=>exact Zah _
 | succ n a=>
  grind [zB]
theorem QrF (n:Nat):vX tC s (zB tC s n):=by
 induction n with
 | zero=>exact λ_ h=>absurd h (Zbo _)
 | succ n a=>
  grind [zB,Cm]
end
variable {l:By} {s:RS}
theorem Qcc (h:(zT l s).an=0):tD l s true=tD l s false:=by
 grind [tD]
def x4 (h:(tA l s).an=0):fM l s true=fM l s false:=by
 unfold fM;rw[Zaa (λh=>ω),Zaa (λa=>a.1 h)];apply List.map_congr_left;intro j b;have c:=List.mem_range.1 b;have h1:(Co (nu l) (dp l s 8) (j+1)).an=0:=by
  by_cases e:j+1=zB (nu l) (dp l s 8) (tz l s 8).toNat
  ·rw[e];exact h
  ·exact QrF (tC:=nu l) (s:=dp l s 8) (tz l s 8).toNat (j+1) ω
 unfold Ha;rw[Qcc h1]
theorem Qa0 (h:bw (l,s)) (p:Bool):(tD l s p).length<=400:=by
 grind [pP,tD,C_,QgU,dp,tz]
theorem Qa1 (h:bw (l,s)) (p:Bool):lsP (fM l s p):=by
 have⟨_,_,_,_,b⟩:=pP (m:=8) h;unfold fM;split
 ·exact⟨Zaj _,λ_ h=>(by cases h)⟩
 ·refine⟨?_,λx a=>?_⟩
  ·grind [C_,QgU,tz]
  ·obtain⟨j,_,rfl⟩:=ZcL.1 a;exact Zav (Qa0 (BC (ph (BD (tC:=nu l) (λ_ h=>RZ h) (xR (m:=8) h) j))) p) ω
theorem Qg4 {m:Int}:(kR l s m).length<=l.length:=by
 grind [kR,R7,wD,dE]
def Qfg (l:By):Ck (x6 l):=by
 exact(w9 l).comp ((w9 l).comp ((w9 l).comp ((T9 l).comp ((tE l).comp ((tE l).comp ((T8 l).comp ((T8 l).comp ((tE l).comp (tE l)))))))))
def Qcd (h:(x6 l s).an=0):F4 l s true=F4 l s false:=by
 have b:=(w9 l).zero h;have a:=(w9 l).zero b;unfold F4 Sd;rw[x4 ((w9 l).zero a),x4 (s:=kS l (sr l s)) a,x4 (s:=kS l (kT l (sr l s))) b,x4 (s:=kS l (kT l (kT l (sr l s)))) h]
def QaT (h:bw (l,s)) (hl:l.length<=1000000) (p:Bool):snP ⟨(Sd l s p).held,(Sd l s p).aI,(Sd l s p).lists⟩:=⟨Zav Qg4 hl,Qa1 (jr (Mn h)).1 p⟩
def Qa6 (h:bw (l,s)) (hl:l.length<=1000000) (p:Bool):Nr (Qgt (F4 l s p)):=by
 have b:=(jr (jr (ph (ph ((jr (jr h).1).1)))).1).1;have a:=Mo b;exact⟨Qa1 b p,QaT a hl p,QaT (xT a) hl p,QaT (xT (xT a)) hl p⟩
def QaU:Nr sa0:=by simp[Nr,snP,lsP,sa0]
def Xb (hl:l.length<=1073741824):bw (l,pd0)/\bw (l,pd1 l)/\bw (l,pd2 l)/\bw (l,T3 l)/\bw (l,Cl l)/\bw (l,pd5 l)/\bw (l,xM l):=by
 have h0:bw (l,pd0):=⟨ZaQ 0,ZaF _,hl⟩;have h1:=ph h0;have a:=(jr h1).1;have b:=(jr a).1;have c:=(jr b).1;have d:bw (l,pd5 l):=(pP c).1;exact⟨h0,h1,a,b,c,d,(pP d).1⟩
def Qhc (hl:l.length<=1000000):Nr (pdA l).x:=Qa6 (Xb ω).2.2.2.2.2.2 hl false
theorem Qhg {h:Option Int} {w:lN->Bool} (hl:l.length<=1000000):Nr (pdF h w l).1.x:=by
 have a:=Qhc hl;have b:Nr (pdN l).x:=QaU;have h0:Nr x9.x:=QaU;grind [pdE,pdF]
theorem Qr2 (h:(T3 l).an≠0):Cl l=T3 l/\pd7 l=T3 l:=by
 have a:Cl l=T3 l:=tE l _ h;have c:pd5 l=T3 l:=by grind [pd5,Ek]
 have b:xM l=T3 l:=by grind [xM,Ek]
 exact⟨a,by unfold pd7;rw[b];exact Qfg l _ h⟩
theorem No (h:s.an≠0):qP l s=s.an:=by grind [qP]
theorem Ql1 (h:qP l s=0):s.an=0:=by
 grind [No]
end sx
set_option maxRecDepth 100000
set_option maxHeartbeats 4000000
namespace sx
noncomputable section
open Go Go.RowKit cls syn
def Qc9 (y:j8×lN):Prop:=let i:=aw 1099511627776 y.2.b;let q1:=(aB y.2.c 0)&&(aB y.2.d 0);let f:=zl.mk y.1 y.2.x.st y.2.x.a8 y.2.x.aH y.2.x.aZ;let g:=λp:Prop=>RA2 y.2.x.st (RA1 y.2.x.a8 (RA1 y.2.x.aH (RA1 y.2.x.aZ p)));let e:Prop:=(false=gE y/\sQ y.1 (True));aj (aw y.2.a 1) (e) (aj (aw 12 y.2.a) (e) (aj (aw y.2.b 1) (e) (aj i (e) (aj (!y.2.live) (aj q1 (Iv True/\g (rG y.2.x=gE y/\sQ y.1 (True))) (e)) (aj (aG 0 y.2.c) (aj (aG y.2.c 16) (Iv (WK f)/\g (sQ y.1 (ny f=gE y/\sQ y.1 (True)))) (e)) (e))))))
def Qda (y:lN):Prop:=let e:=aw 1099511627776 y.b;let q1:=(aB y.c 0)&&(aB y.d 0);aj (aw y.a 1) (false=gP y/\True) (aj (aw 12 y.a) (false=gP y/\True) (aj (aw y.b 1) (false=gP y/\True) (aj e (false=gP y/\True) (aj (!y.live) (aj q1 (Iv True/\RA2 y.x.st (RA1 y.x.a8 (RA1 y.x.aH (RA1 y.x.aZ (rG y.x=gP y/\True))))) (false=gP y/\True)) (false=gP y/\True)))))
def Qdb (y:j8×lN):Prop:=let f:=!(seq y.1.s.c []);let q1:=aw 1099511627776 y.2.b;let i:=aB y.2.x.st.size 0;let j:=aB y.2.x.st.pos 0;let k:=aB y.2.x.st.bN 0;let l:=aB y.2.x.st.bj 0;let n:=aB (ag y.2.x.st.aS) 0;let o:=(aB y.2.c 0)&&(aB y.2.d 0);let g:=zl.mk (j8.mk y.1.s y.1.p y.1.q []) y.2.x.st y.2.x.a8 y.2.x.aH y.2.x.aZ;let e:Prop:=(RA4 y.1.s (IV y.1 (aa [f] (True))));aj (aw y.2.a 1) (false=gE y/\e) (aj (aw 12 y.2.a) (false=gE y/\e) (aj (aw y.2.b 1) (false=gE y/\e) (aj q1 (false=gE y/\e) (aj y.2.live (aj (aG 0 y.2.c) (aj (aG y.2.c 16) (Iv (y7 g)/\RA2 y.2.x.st (RA1 y.2.x.a8 (RA1 y.2.x.aH (RA1 y.2.x.aZ (RA4 y.1.s (IV y.1 (aa [f] (ny g=gE y/\e)))))))) (false=gE y/\e)) (false=gE y/\e)) (aj o (aj j (aj k (aj (!y.2.x.st.ch) (aj (!y.2.x.st.jH) (aj l (aj i (aj n (Iv True/\RA1 y.2.x.a8 (aj (fb y.2.x.a8) (Iv True/\aa [y.2.x.aH.h] (aa [y.2.x.aH.m] (aa [y.2.x.aH.L] (aj (fb y.2.x.aH) (Iv True/\aa [y.2.x.aZ.h] (aa [y.2.x.aZ.m] (aa [y.2.x.aZ.L] (fb y.2.x.aZ=gE y/\e)))) (false=gE y/\e))))) (false=gE y/\e))) (false=gE y/\e)) (false=gE y/\e)) (false=gE y/\e)) (false=gE y/\e)) (false=gE y/\e)) (false=gE y/\e)) (false=gE y/\e)) (false=gE y/\e))))))
def Qdc (y:lN):Prop:=let e:=aw 1099511627776 y.b;let q1:=aB y.x.st.bN 0;let f:=aB y.x.st.size 0;let g:=aB y.x.st.bj 0;let i:=aB (ag y.x.st.aS) 0;let j:=(aB y.c 0)&&(aB y.d 0);aj (aw y.a 1) (false=gP y/\True) (aj (aw 12 y.a) (false=gP y/\True) (aj (aw y.b 1) (false=gP y/\True) (aj e (false=gP y/\True) (aj y.live (false=gP y/\True) (aj j (aj (aB y.x.st.pos 0) (aj q1 (aj (!y.x.st.ch) (aj (!y.x.st.jH) (aj g (aj f (aj i (Iv True/\RA1 y.x.a8 (aj (fb y.x.a8) (Iv True/\aa [y.x.aH.h] (aa [y.x.aH.m] (aa [y.x.aH.L] (aj (fb y.x.aH) (Iv True/\aa [y.x.aZ.h] (aa [y.x.aZ.m] (aa [y.x.aZ.L] (fb y.x.aZ=gP y/\True)))) (false=gP y/\True))))) (false=gP y/\True))) (false=gP y/\True)) (false=gP y/\True)) (false=gP y/\True)) (false=gP y/\True)) (false=gP y/\True)) (false=gP y/\True)) (false=gP y/\True)) (false=gP y/\True))))))
def Qdg (y:List (List UInt8)):Prop:=let a:=y.length;(∃z:Nat,aa [y] (aa [ag y] (0=vJ y z/\0=(z:Int)/\(Iv (z<=a)))))/\(∀x:Nat,let q1:=vJ y x;let c:=aw (x:Int) (ag y);let b:=gt [] y (x:Int).toNat;(Iv (x<=a))->aj c (aG 0 (x:Int)/\c/\Iv (b.length<=1000000000000)/\aa [q1] (aa [b] (∃z:Nat,aa [y] (aa [ag y] (lk (vH (q1,b))=vJ y z/\ay .i64 (x:Int) 1=(z:Int)/\(Iv (z<=a/\(a-z)<(a-x)))))))) (q1=vJ y a/\True))
def Qdh (y:j8):Prop:=let a:=nr [] y.s;let q1:=([a]:List (List UInt8));Iv (psW ([],y.s))/\RAG ([]:List UInt8) (RA4 y.s (Iv (QlW q1)/\aa [q1] (Tt 1 (Iv (a.length<=1000000000000)/\aa ([1]:List Int) (aa [a] (FZ .i64 (oO .i64 (jP .i64 (vJ q1 q1.length)) 16) (jP .i64 (lF .u32 (lk (vH (1,a))) 65535))=qJ y.s/\sQ y (True)))))))
def Qdi (y:cj):Prop:=let a:=nr [] y;Iv (psW ([],y))/\RAG ([]:List UInt8) (RA4 y (Iv (a.length<=1000000000000)/\aa ([0]:List Int) (aa [a] (Tt 1 (Iv (a.length<=1000000000000)/\aa ([1]:List Int) (aa [a] (FZ .i64 (oO .i64 (jP .i64 (lk (vH (0,a)))) 16) (jP .i64 (lF .u32 (lk (vH (1,a))) 65535))=qJ y/\True)))))))
def Qdj (y:Dh):Prop:=aj (aB (ag y.h) 0) (aj (aB y.m 0) (aB (ag y.L) 0=fb y/\True) (false=fb y/\True)) (false=fb y/\True)
def Qdk (y:FN):Prop:=let a:=y9 y;let q1:=([Q6.mk y.a8.h y.a8.m y.a8.L,Q6.mk y.aH.h y.aH.m y.aH.L,Q6.mk y.aZ.h y.aZ.m y.aZ.L]:List Q6);let d:=λp:Prop=>RA2 y.st (RA1 y.a8 (RA1 y.aH (RA1 y.aZ p)));(∃z:Nat,true=ud y z/\q1=a/\ag q1=3/\0=(z:Int)/\d ((Iv (z<=3))))/\(∀x:Nat,let b:=gt (Q6.mk [] 0 []) a (x:Int).toNat;let e:=aB (ag b.h) 0;let c:Prop:=(∃z:Nat,false=ud y z/\RAG a (ay .i64 (x:Int) 1=(z:Int)/\d ((Iv (z<=3/\(3-z)<(3-x))))));(Iv (x<=3))->aj (aw (x:Int) 3) (aG 0 (x:Int)/\aw (x:Int) (ag a)/\aj (ud y x) (aj e (aj (aB b.m 0) (∃z:Nat,aB (ag b.L) 0=ud y z/\RAG a (ay .i64 (x:Int) 1=(z:Int)/\d ((Iv (z<=3/\(3-z)<(3-x)))))) (c)) (c)) (c)) (aj (ud y x) (aj (aB y.st.pos 0) (aj (aB y.st.bN 0) (aj (!y.st.ch) (aj (!y.st.jH) (aj (aB y.st.bj 0) (aj (aB y.st.size 0) (aB (ag y.st.aS) 0=rG y/\True) (false=rG y/\True)) (false=rG y/\True)) (false=rG y/\True)) (false=rG y/\True)) (false=rG y/\True)) (false=rG y/\True)) (false=rG y/\True)))
theorem Xk (y:List By) {k:Nat} (h:k<y.length):lk (vH (vJ y k,y.getD k []))=vJ y (k+1):=by
 grind [vJ,List.take_append_getElem]
theorem Ql2:Ok W7:=okZ (V:=Qdg) [Jw] f84 QtV Qc5 λy a=>by
 have a:y.length<=1000/\∀k,k<y.length->(y.getD k []).length<=1000000000000:=a;unfold Qdg;simp only[bC,Zad];refine⟨⟨0,rfl,rfl,Zaj _⟩,λx b=>⟨λk=>?_,λk=>?_⟩⟩
 ·grind [Xk]
 ·grind
theorem FT {s:cj} (h:y8 s):(nr [] s).length<=536870912:=by
 have h:30+eO s.r+s.c.length<=536870912:=h;grind [qA,pO,nr]
theorem Ql3:Ok QaN:=okZ (V:=Qdh) [WU,W7,Jw] f35 (λ_=>dY ()) ⟨QlQ,Ql2,Qc5⟩ λy a=>by
 have hl:=FT a;unfold Qdh;simp only[bC];refine⟨by assumption,⟨by simp,λk hk=>?_⟩,ω,?_⟩
 ·grind
 ·refine⟨?_,(j9.2.2.2.2.2.2.1 y True).symm▸trivial⟩;have e:vJ [nr [] y.s] 1=lk (vH (0,nr [] y.s)):=rfl;show FZ _ (oO _ (jP _ (vJ [nr [] y.s] 1)) 16) _=_
  rw[e,aC,aC];rfl
def Ql4:Ok QaO:=okZ (V:=Qdi) [WV,WS] f39 (λ_=>dY ()) ⟨QlR,QlN⟩ λy a=>by
 have hl:=FT a;unfold Qdi;simp only[bC];exact⟨by assumption,ω,ω,by rw[aC,aC];rfl⟩
theorem Qdl:Ok W8:=okZ (V:=Qdj) [] f32 (λ_=>dY ()) trivial λy _=>by
 grind [Qdj,fb]
theorem Xl (y:FN) {k:Nat} (h:k<3):ud y (k+1)=(ud y k&&fb ⟨((y9 y).getD k ⟨[],0,[]⟩).h,((y9 y).getD k ⟨[],0,[]⟩).m,((y9 y).getD k ⟨[],0,[]⟩).L⟩):=by
 match k,h with
 | 0,_=>simp[ud,y9]
 | 1,_=>simp[ud,y9]
 | 2,_=>simp[ud,y9,Bool.and_assoc]
theorem Qbe (y:FN):ud y 3=(fb y.a8&&fb y.aH&&fb y.aZ):=by
 simp[ud,y9,scE,Bool.and_assoc]
theorem Qdm:Ok O0:=okZ (V:=Qdk) [] f31 Qt0 trivial λy _=>by
 unfold Qdk;simp only[bC,bL,au,Zad];have hl:(y9 y).length=3:=rfl;refine⟨⟨0,rfl,rfl,rfl,rfl,ω⟩,λx b=>⟨λk=>?_,λk=>?_⟩⟩
 ·have a:x<3:=ω;have e:=Xl y a;grind [fb]
 ·grind [Qbe,rG,aC]
def Qdn (r:j8) (st:VE) (a b c:Dh):ny ⟨⟨r.s,r.p,r.q,[]⟩,st,a,b,c⟩=ny ⟨r,st,a,b,c⟩:=by
 rfl
def wz (y:j8×lN):gE y=(ptN y.2&&(if y.2.live=true then aG 0 y.2.c&&aG y.2.c 16&&ny (C9 y.1 y.2) else ptB y.2)):=aC _
theorem Db (y:lN):gP y=(ptN y&&!y.live&&ptB y):=aC _
theorem Qdo (b:Ok dB):Ok W9:=okZ (V:=Qc9) [O0,Qas] Tryz.f9 (λ_=>dY ()) ⟨Qdm,Qlz b⟩ λy a=>by
 have a:WK (C9 y.1 y.2):=a;have e:=wz y;unfold Qc9;simp only[j9];grind [C9,ptN,ptB]
theorem Qdp:Ok W':=okZ (V:=Qda) [O0] Tryz.f9 (λ_=>dY ()) Qdm λy _=>by
 grind [Db,Qda,ptN,ptB]
theorem Qdq (b:Ok gA):Ok W_:=okZ (V:=Qdb) [W8,WQ] f10 (λ_=>dY ()) ⟨Qdl,QlL b⟩ λy a=>by
 have a:y7 ⟨⟨y.1.s,y.1.p,y.1.q,[]⟩,y.2.x.st,y.2.x.a8,y.2.x.aH,y.2.x.aZ⟩:=a;have e:=wz y;have c:rG y.2.x=_:=aC _;unfold Qdb;simp only[bC,j9,(Qdn y.1 y.2.x.st y.2.x.a8 y.2.x.aH y.2.x.aZ)];unfold C9 at e
 with_reducible repeat' first | exact a | apply And.intro | intro _
 all_goals (rw[e];simp_all [ptN,ptB])
theorem Qdr:Ok Xa:=okZ (V:=Qdc) [W8] f10 (λ_=>dY ()) Qdl λy _=>by
 grind [Db,rG,aC,Qdc,ptN,ptB]
def Xm (r:j8) (p:lN):gE (⟨r.s,r.p,r.q,[]⟩,p)=gE (r,p):=by
 rfl
end
end sx
namespace sx
open Go Go.RowKit cls syn
set_option maxRecDepth 100000
set_option maxHeartbeats 4000000
theorem Qm6:Ok Qgr:=okZ (V:=QdS) [] f47 (λ_=>dY ()) trivial λy _=>by
 grind [QdS,qP]
theorem Qm7:Ok QrE:=okZ (V:=QdS) [] f53 (λ_=>dY ()) trivial λy _=>by
 grind [QdS,qP]
theorem gM {p:lN} {c:Int} {x:lN×Int} (h:x=(p,c)):qh p c x True:=by
 grind [qh]
section
variable {l:By} {h:Option Int} {w:lN->Bool} {p:lN} {e:Int}
theorem x7 (k:e≠0):pdE l e p w=(x9,e):=Zac k
theorem GX (k:e=0) (kw:w p=false):pdE l e p w=(x9,4):=(Zaa ω).trans (Zaa (by grind))
theorem GZ (k:e=0) (kw:w p):pdE l e p w=(p,0):=(Zaa ω).trans (Zac kw)
def Qd0 (a:kP l pd0) (k:(Cl l).an=0) (b:h≠some (cJ l (T3 l))):pdF h w l=(x9,11):=(Zac a).trans (Zac ⟨k,b⟩)
theorem T4 (a:kP l pd0) (k:¬((Cl l).an=0/\h≠some (cJ l (T3 l)))):pdF h w l=pdE l (qP l (pd7 l)) (pdA l) w:=(Zac a).trans (Zaa k)
theorem Qa7 (a:kP l pd0=false):pdF h w l=pdE l (qP l (T3 l)) (pdN l) w:=Zaa (by grind)
theorem R1 (k:(T3 l).an≠0):pdF h w l=(x9,qP l (T3 l)):=by
 have⟨a,b⟩:=Qr2 k;have c:qP l (T3 l)≠0:=by grind [No]
 grind [T4,x7,Qa7]
end
def R2 (l:By):gS l ⟨0,0⟩=pd1 l/\db l (pd1 l)=pd2 l/\db l (pd2 l)=T3 l/\db l (T3 l)=Cl l/\eB l (Cl l) 16=pd5 l/\eB l (pd5 l) 4294967295=xM l/\x6 l (xM l)=pd7 l:=⟨rfl,rfl,rfl,rfl,rfl,rfl,rfl⟩
def pdB (l:By):lN:=⟨true,cJ l (pd1 l),cJ l (pd2 l),fV l (Cl l) 16,jP .u32 (fV l (pd5 l) 4294967295),Qgt (F4 l (xM l) true)⟩
theorem Nq {l:By} (h:qP l (pd7 l)=0):pdB l=pdA l:=by
 unfold pdB pdA;rw[Qcd (Ql1 h)]
def Qr8 {l:By} (hl:l.length<=1000000):Nr (pdB l).x:=Qa6 (Xb ω).2.2.2.2.2.2 hl true
def Qa8 (l:By):pdA l=⟨true,cJ l (pd1 l),cJ l (pd2 l),fV l (Cl l) 16,jP .u32 (fV l (pd5 l) 4294967295),⟨⟨cJ l (xM l),cJ l (db l (xM l)),kP l (xS l (xM l)),kP l (gS l (xS l (xM l))),cJ l (wA l (xM l)),cJ l (db l (wA l (xM l))),fM l (db l (db l (wA l (xM l)))) false⟩,⟨kR l (sr l (xM l)) 3,cJ l (mK l (sr l (xM l))),fM l (kS l (sr l (xM l))) false⟩,⟨kR l (kT l (sr l (xM l))) 3,cJ l (mK l (kT l (sr l (xM l)))),fM l (kS l (kT l (sr l (xM l)))) false⟩,⟨kR l (kT l (kT l (sr l (xM l)))) 3,cJ l (mK l (kT l (kT l (sr l (xM l))))),fM l (kS l (kT l (kT l (sr l (xM l))))) false⟩⟩⟩:=by unfold pdA F4 Sd;rfl
def Qbf (l:By):pdB l=⟨true,cJ l (pd1 l),cJ l (pd2 l),fV l (Cl l) 16,jP .u32 (fV l (pd5 l) 4294967295),⟨⟨cJ l (xM l),cJ l (db l (xM l)),kP l (xS l (xM l)),kP l (gS l (xS l (xM l))),cJ l (wA l (xM l)),cJ l (db l (wA l (xM l))),fM l (db l (db l (wA l (xM l)))) true⟩,⟨kR l (sr l (xM l)) 3,cJ l (mK l (sr l (xM l))),fM l (kS l (sr l (xM l))) true⟩,⟨kR l (kT l (sr l (xM l))) 3,cJ l (mK l (kT l (sr l (xM l)))),fM l (kS l (kT l (sr l (xM l)))) true⟩,⟨kR l (kT l (kT l (sr l (xM l)))) 3,cJ l (mK l (kT l (kT l (sr l (xM l))))),fM l (kS l (kT l (kT l (sr l (xM l))))) true⟩⟩⟩:=by unfold pdB F4 Sd;rfl
theorem Qvx (q:Ok dB):Ok QjR:=okZ (V:=Qm2) [Po,uE,ou,R8,QaN,s5,Hc,Qgr,W9] f14 (λ_=>dY ()) ⟨Qf0,RY,zA,Qga,Ql3,Mi,Qdf,Qm6,Qdo q⟩ λy t=>by
 obtain⟨hl,o,hw⟩:y.2.length<=1000000/\y8 y.1.s/\∀p:lN,Nr p.x->WK (C9 y.1 p):=t;have⟨c,d,f,u,z,A,B⟩:=Xb (l:=y.2) ω;have e:mJ y=_:=aC _;have w:=Qhc hl;have⟨g,h,i,j,m,n,v⟩:=R2 y.2;unfold Qm2;simp only[bC,j9,g,h,i,j,m,n,oo,oq,Zan,Zao];cases b:kP y.2 ⟨0,0⟩ with
 | true=>
  simp only[<-Qa8];refine⟨ω,c,d,f,λ_=>⟨u,λk=>⟨o,λk2=>gM (e.trans (Qd0 b k λa=>k2 (ZbN a).symm)),λk2=>?_⟩,λk=>?_⟩,nofun⟩
  ·have r:=e.trans (T4 b λa=>a.2 (ZaR some k2.symm));grind [gM,x7,GX,GZ]
  ·have r:=e.trans (T4 b λa=>k a.1);grind [gM,x7,GX,GZ]
 | false=>
  have r:=e.trans (Qa7 b);exact⟨ω,c,d,f,nofun,λ_=>⟨λk=>gM (r.trans (x7 k)),λk=>⟨hw (pdN y.2) QaU,λk2=>gM (r.trans (GX k k2)),λk2=>gM (r.trans (GZ k k2))⟩⟩⟩
theorem Qvy:Ok Qka:=okZ (V:=Qm3) [Po,uE,ou,R8,s5,Hc,Qgr,W'] f14 (λ_=>dY ()) ⟨Qf0,RY,zA,Qga,Mi,Qdf,Qm6,Qdp⟩ λy n=>by
 have hl:=n;have⟨c,d,f,o,p,q,s⟩:=Xb hl;have e:qM y=_:=aC _;have⟨g,h,i,j,l,m,t⟩:=R2 y;unfold Qm3;simp only[bC,g,h,i,j,l,m,oo,oq,Zan,Zao];cases b:kP y ⟨0,0⟩ with
 | true=>
  refine⟨hl,c,d,f,λ_=>⟨o,λk=>gM (e.trans (Qd0 b k nofun)),λk=>?_⟩,nofun⟩;have r:=e.trans (T4 b λa=>k a.1);exact⟨p,q,s,λk=>gM (r.trans (x7 k)),λk=>⟨λk2=>gM (r.trans (GX k k2)),λk2=>gM (r.trans (GZ k k2))⟩⟩
 | false=>
  have r:=e.trans (Qa7 b);exact⟨hl,c,d,f,nofun,λ_=>⟨λk=>gM (r.trans (x7 k)),λk=>⟨λk2=>gM (r.trans (GX k k2)),λk2=>gM (r.trans (GZ k k2))⟩⟩⟩
theorem Qvz (u:Ok gA):Ok Qkd:=okZ (V:=Qm4) [G9,tB,mM,QaO,tx,x3,QrE,W_] f15 (λ_=>dY ()) ⟨QcX,Mh,uF,Ql4,Ml,QaY,Qm7,Qdq u⟩ λy v=>by
 obtain⟨hl,t,hw⟩:y.2.length<=1000000/\y8 y.1.s/\∀p:lN,Nr p.x->y7 (C9 ⟨y.1.s,y.1.p,y.1.q,[]⟩ p):=v;have⟨c,d,f,w,B,C,D⟩:=Xb (l:=y.2) ω;have e:mJ y=_:=aC _;have A:=Qr8 hl;have⟨g,h,i,j,m,n,z⟩:=R2 y.2;unfold Qm4;simp only[bC,j9,Xm,g,h,i,j,m,n,oo,oq,Zan,Zao];have bad:(T3 y.2).an≠0->qP y.2 (T3 y.2)≠0:=λk o=>k ((No k).symm.trans o)
 cases b:kP y.2 ⟨0,0⟩ with
 | true=>
  simp only[<-Qbf];refine⟨ω,c,d,f,λk=>⟨λ_=>⟨w,λk=>⟨t,λk2=>gM (e.trans (Qd0 b k λa=>k2 (ZbN a).symm)),λk2=>?_⟩,λk=>?_⟩,nofun⟩,λk=>⟨λ_=>gM (e.trans (R1 k)),λk2=>absurd k2 (bad k)⟩⟩
  ·have r:=e.trans (T4 b λa=>a.2 (ZaR some k2.symm));grind [gM,x7,GX,Nq,GZ]
  ·have r:=e.trans (T4 b λa=>k a.1);grind [gM,x7,GX,Nq,GZ]
 | false=>
  have r:=e.trans (Qa7 b);exact⟨ω,c,d,f,λ_=>⟨nofun,λ_=>⟨λk=>gM (r.trans (x7 k)),λk=>⟨hw (pdN y.2) QaU,λk2=>gM (r.trans (GX k k2)),λk2=>gM (r.trans (GZ k k2))⟩⟩⟩,λk=>⟨λ_=>gM (e.trans (R1 k)),λk2=>absurd k2 (bad k)⟩⟩
theorem QvA:Ok Qko:=okZ (V:=Qm5) [G9,tB,mM,tx,x3,QrE,Xa] f15 (λ_=>dY ()) ⟨QcX,Mh,uF,Ml,QaY,Qm7,Qdr⟩ λy o=>by
 have hl:=o;have⟨c,d,f,p,q,s,t⟩:=Xb hl;have e:qM y=_:=aC _;have⟨g,h,i,j,l,m,u⟩:=R2 y;unfold Qm5;simp only[bC,g,h,i,j,l,m,oo,oq,Zan,Zao];have bad:(T3 y).an≠0->qP y (T3 y)≠0:=λk n=>k ((No k).symm.trans n)
 cases b:kP y ⟨0,0⟩ with
 | true=>
  refine⟨hl,c,d,f,λk=>⟨λ_=>⟨p,λk=>gM (e.trans (Qd0 b k nofun)),λk=>?_⟩,nofun⟩,λk=>⟨λ_=>gM (e.trans (R1 k)),λk2=>absurd k2 (bad k)⟩⟩;have r:=e.trans (T4 b λa=>k a.1);exact⟨q,s,t,λk=>gM (r.trans (x7 k)),λk=>⟨λk2=>gM (r.trans (GX k (by rw[<-Nq k];exact k2))),λk2=>gM ((r.trans (GZ k (by rw[<-Nq k];exact k2))).trans (ZaR (·,0) (Nq k).symm))⟩⟩
 | false=>
  have r:=e.trans (Qa7 b);exact⟨hl,c,d,f,λ_=>⟨nofun,λ_=>⟨λk=>gM (r.trans (x7 k)),λk=>⟨λk2=>gM (r.trans (GX k k2)),λk2=>gM (r.trans (GZ k k2))⟩⟩⟩,λk=>⟨λ_=>gM (e.trans (R1 k)),λk2=>absurd k2 (bad k)⟩⟩
end sx
set_option maxRecDepth 100000
set_option maxHeartbeats 4000000
namespace sx
noncomputable section
open Go Go.RowKit cls syn
def Ql8 (hl:Ok zN) (a:Ok C4):Ok QfR:=Qo5 (k:=QfR) (T:=Jz) (F:=JA) [zN,C4] Tryz.f6 QtT id id (λ_=>rfl) ⟨hl,a⟩ QlT QlU
def QfV (s:cj):(⟨⟨if 3<s.r.length then s.r.take 3 else s.r,s.c⟩,⟨(b9 (jU s)).af,(b9 (jU s)).st⟩,⟨(b9 (jU s)).cc,(b9 (jU s)).cs⟩,[]⟩:j8)=⟨(lM s).s,(lM s).p,(lM s).q,[]⟩:=by
 rw[show lM s=_ from aC _];rfl
def Qmb {s:cj} (h:ldK s) {p:lN} (e:Nr p.x):y7 (C9 (lM s) p):=by
 have⟨a,a2,a3,a4⟩:=e;have⟨b1,b,c⟩:=QlV h;exact⟨⟨⟨b1,a3.2.1,a3.2.2⟩,⟨b1,a2.2.1,a2.2.2⟩,b,λd=>⟨(c d).1,a4.2.1,a4.2.2⟩,a.1⟩,QfQ h⟩
theorem Xn (l:List iX) (n:Nat):eO (l.take n)<=eO l:=by
 induction l generalizing n with
 | nil=>simp
 | cons p l a=>
  cases n with
  | zero=>simp[eO]
  | succ n=>have:=a n;simp only[List.take_succ_cons,eO];omega
theorem QfW {s:cj} (h:QfT s):y8 (lM s).s:=by
 rw[show lM s=_ from aC _];have h:eO s.r+s.c.length<=22020096:=h;show 30+eO (if 3<s.r.length then s.r.take 3 else s.r)+s.c.length<=536870912
 grind [Xn]
theorem QvB:Ok Qku:=okZ (V:=Qm0) [Qhs] f16 (λ_=>dY ()) Qu8 λy a=>by
 have a:Nr y.x:=a;grind [Qm0,OY]
def QvC (r:j8) (l:By):mJ (⟨r.s,r.p,r.q,[]⟩,l)=mJ (r,l):=by
 rfl
theorem QvD (hl:Ok zN) (i:Ok C4) (g:Ok dB) (hs:Ok QfS):Ok QkE:=okZ (V:=Qm1) Qxi Tryz.f4 (λ_=>dY ()) ⟨Ql8 hl i,hs,Qvx g,Qvy,Qvz ri,QvA,QvB⟩ λy j=>by
 have hH:=QfW j;have e2:∀a:Int,aB a a:=λa=>oo.2 rfl
 have l:y.2.length<=1000000->Nr (mJ (lM y.1,y.2)).1.x:=λh=>by
  grind [mJ,aC,Qhg]
 have m:y.2.length<=1000000->Nr (qM y.2).1.x:=λh=>by
  grind [qM,aC,Qhg]
 have f:aw 3000 (dD y.2)=false->y.2.length<=3000:=λh=>by
  grind
 unfold Qm1;simp only[bC,j9,QfV,(QvC (lM y.1) y.2),e2,ZaX,reduceCtorEq,ZbV];refine⟨λk=>⟨k.symm,λ_=>trivial,λk2=>?_⟩,λk=>⟨k.symm,λ_=>trivial,λk2=>?_⟩⟩
 ·have n:=f k2;have e:∀p:lN,Nr p.x->y7 (C9 (lM y.1) p):=λp c=>Qmb k c
  have b:y.2.length<=1000000:=ω;have d:y.2.length<=1073741824:=ω;exact⟨⟨b,hH,λp c=>(e p c).1⟩,⟨b,hH,e⟩,d,d,l b,m b⟩
 ·grind
end
end sx
namespace sx
open Go Go.RowKit
noncomputable section
abbrev Rn (E:Nat->Type):=St E->T (AV E)->C (Ex×St E×T (AV E))
section
variable (P:Program) (D:Data) (cd:TypeId->Option Nat) (ca:uj D.E) (mu:List Nat) (N un:Nat)
def tC (b:Rn D.E) (r:Ex×St D.E×T (AV D.E)):C (Ex×St D.E×T (AV D.E)):=match r.1 with
 | .normal=>b r.2.1 r.2.2
 | _=>.ret r
def Xo (body:Rn D.E) (n:Nat):Rn D.E:=Nat.rec (motive:=λ_=>Rn D.E) (λ_ _=>.fail) (λ_ a s φ=>az (body s φ) (tC D a)) n
def QfY (id:Nat) (r:Ex×St D.E×T (AV D.E)):Ex×St D.E×T (AV D.E):=match r.1 with
 | .exit j=>bif Nat.beq j id then(.normal,r.2) else r
 | _=>r
def Dc (c:Code):Rn D.E:=
 Code.rec (motive:=λ_=>Rn D.E)
  (λs φ=>.ret (.normal,s,φ))
  (λid ops draw s φ=>az (bif draw then Dv P D cd (Dy mu id) ca ops.toList N s φ else qT P D cd (Dy mu id) ca ops.toList N ops.toList (nat_lit 0) s φ) λq=>.ret (.normal,q))
  (λ_ _ b a s φ=>az (b s φ) (tC D a))
  (λc _ _ b a s φ=>az (az (ev P D φ c) λv=>wG D v) λt=>bif t then b s φ else a s φ)
  (λid _ a s φ=>az (a s φ) λr=>.ret (QfY D id r))
  (λ_ a=>Xo D a un)
  (λ_ _ _ _ _ _ _ _=>.fail)
  (λid s φ=>.ret (.exit id,s,φ))
  (λ_ _ _ _=>.fail)
  (λ_ s φ=>.ret (.normal,s,φ))
  (λ_ _ _=>.fail)
  (λs φ=>.ret (.ret,s,φ))
  (λ_ _ _=>.fail) c
def Qme (a:List (AV D.E)):C (AV D.E):=match a with
 | [v]=>match v with
  | .tuple _=>.fail
  | v=>.ret v
 | a=>.ret (.tuple a)
def Qmf (e:Ex):Bool:=match e with
 | .exit _=>false
 | _=>true
def Xp (f:FuncId) (args:List (AV D.E)) (s:St D.E):C (AV D.E×St D.E):=az (cR P.funcs[f]?) λfn=>az (cR fn.body) λc=>bB (Nat.ble (kb args) fn.ntmps) (az (tc D args (nat_lit 0) .nil) λφ=>
 az (Dc P D cd ca mu fn.ntmps un c s φ) λr=>bB (Qmf r.1) (az (PZ P D r.2.1 r.2.2 fn.results.toList) λa=>az (Qme D a) λv=>.ret (v,r.2.1)))
def inl (tab:List (bh D)) (a:List (Nat×List Nat)) (n:Nat):uj D.E:=Nat.rec (motive:=λ_=>uj D.E) (X2 D tab)
 (λ_ b f args s=>bE (BY (X2 D tab f args s)) (Xp P D cd b ((cA a f).getD []) un f args s) (X2 D tab f args s)) n
end
end
section
variable {P:Program} {D:Data} {cd:TypeId->Option Nat} {ca:uj D.E} {M M':Pm D} {w w':World} {s s':St D.E} {φ φ':T (AV D.E)} {a:Act} {mu:List Nat} {N un:Nat}
variable {Z:List (AV D.E)} {v:AV D.E}
def Qmg (P:Program) (N:Nat) (c:Code) (r:Rn D.E):Prop:=∀(s:St D.E) (φ:T (AV D.E)) (e:Ex) (b:St D.E) (d:T (AV D.E)),(r s φ).H (e,b,d)->s.nx<=b.nx/\
 ∀(M:Pm D) (a:Act) (w:World),ee M s.h.get w->FR M φ a N->bV M s.nx b.nx->∀R:Exit->Act->World->Prop,
  (∀f g i,cU s.h.get M w b.h.get f i s.nx b.nx->FR f d g N->R (QdV e) g i)->c.wp P R a w
theorem Mr {b:Code} {r:Rn D.E} (y:Qmg P N b r):∀(n:Nat) (s:St D.E) (φ:T (AV D.E)) (e:Ex) (f:St D.E) (d:T (AV D.E)),(Xo D r n s φ).H (e,f,d)->s.nx<=f.nx/\
  ∀(M:Pm D) (a:Act) (w:World),ee M s.h.get w->FR M φ a N->bV M s.nx f.nx->∀R:Exit->Act->World->Prop,
   (∀v x A,cU s.h.get M w f.h.get v A s.nx f.nx->FR v d x N->R (QdV e) x A)->Code.rounds P b R n a w
 | 0,s,φ,e,f,d,h=>(te h).elim
 | n+1,s,φ,e,f,d,h=>by
  obtain⟨⟨F,I,u⟩,h1,q⟩:=ai.1 (show(az (r s φ) (tC D (Xo D r n))).H _ from h);obtain⟨t,k1⟩:=y _ _ _ _ _ h1;cases F with
  | normal=>
   obtain⟨z,k2⟩:=Mr y n _ _ _ _ _ (show(Xo D r n I u).H _ from q);refine⟨Zav t z,λM a w m o c R l=>?_⟩;rw[rounds_succ];refine k1 M a w m o (c.fst z) _ λi j p g k=>?_
   exact k2 i j p g.fJ k (c.next g) R λB a2 K J G=>l B a2 K (g.trans J) G
  | exit id=>
   cases aq.1 (show(C.ret _).H _ from q);refine⟨t,λM a w m o c R l=>?_⟩;rw[rounds_succ];exact k1 M a w m o c _ λi j p g k=>l i j p g k
  | ret=>
   cases aq.1 (show(C.ret _).H _ from q);refine⟨t,λM a w m o c R l=>?_⟩;rw[rounds_succ];exact k1 M a w m o c _ λi j p g k=>l i j p g k
theorem Qbi (W:aY D) (O:P.follows .mixedOrders) (Q:rZ P) (L:rY P D ca) (c:Code):Qmg P N c (Dc P D cd ca mu N un c):=by
 induction c with
 | skip=>
  intro s φ e z i h;cases aq.1 (show(C.ret _).H _ from h);exact⟨Zah _,λM a w n g _ R m=>wp_skip (m M a w (.refl n _) g)⟩
 | region id ops draw=>
  intro s φ e z i h;obtain⟨⟨K,p⟩,h1,o⟩:=ai.1 (show(az _ λq=>C.ret (Ex.normal,q)).H _ from h);cases aq.1 o;cases draw with
  | true=>exact DR (id:=id) W O Q L (show(Dv P D cd (Dy mu id) ca ops.toList N s φ).H _ from h1)
  | false=>
   obtain⟨l,k⟩:=pZ W Q L _ _ _ _ _ _ (show(qT P D cd (Dy mu id) ca ops.toList N ops.toList 0 s φ).H _ from h1);exact⟨l,λM a w n g d R m=>wp_region_list (k M a w n g d R m)⟩
 | seq x y G I=>
  intro s φ e z i h;obtain⟨⟨S,K,p⟩,h1,o⟩:=ai.1 (show(az (Dc P D cd ca mu N un x s φ) (tC D (Dc P D cd ca mu N un y))).H _ from h);obtain⟨J,k1⟩:=G _ _ _ _ _ h1;cases S with
  | normal=>
   obtain⟨X,k2⟩:=I _ _ _ _ _ (show(Dc P D cd ca mu N un y K p).H _ from o);refine⟨Zav J X,λM a w n g d R m=>wp_seq (k1 M a w n g (d.fst X) _ λE u B A F=>?_)⟩;exact k2 E u B A.fJ F (d.next A) R λY a2 w2 t2 Z=>m Y a2 w2 (A.trans t2) Z
  | exit id=>
   cases aq.1 (show(C.ret _).H _ from o);exact⟨J,λM a w n g d R m=>wp_seq (k1 M a w n g d _ λE u B A F=>m E u B A F)⟩
  | ret=>
   cases aq.1 (show(C.ret _).H _ from o);exact⟨J,λM a w n g d R m=>wp_seq (k1 M a w n g d _ λE u B A F=>m E u B A F)⟩
 | cond c x y G I=>
  intro s φ e z i h;obtain⟨t,h1,o⟩:=ai.1 (show(az (az (ev P D φ c) λv=>wG D v) λt=>bif t then Dc P D cd ca mu N un x s φ else Dc P D cd ca mu N un y s φ).H _ from h);obtain⟨v,U,V⟩:=ai.1 h1;cases t with
  | true=>
   obtain⟨l,k⟩:=G _ _ _ _ _ o;exact⟨l,λM a w n g d R m=>wp_cond_true (vU V (dN U g)) (k M a w n g d R m)⟩
  | false=>
   obtain⟨l,k⟩:=I _ _ _ _ _ o;exact⟨l,λM a w n g d R m=>wp_cond_false (vU V (dN U g)) (k M a w n g d R m)⟩
 | block id b T=>
  intro s φ e z i h;obtain⟨⟨S,K,p⟩,h1,o⟩:=ai.1 (show(az (Dc P D cd ca mu N un b s φ) λr=>C.ret (QfY D id r)).H _ from h);obtain⟨J,k1⟩:=T _ _ _ _ _ h1;have o:QfY D id (S,K,p)=(e,z,i):=aq.1 o;cases S with
  | normal=>
   cases o;exact⟨J,λM a w n g d R m=>wp_block (k1 M a w n g d _ λE u B A F=>m E u B A F)⟩
  | ret=>
   cases o;exact⟨J,λM a w n g d R m=>wp_block (k1 M a w n g d _ λE u B A F=>m E u B A F)⟩
  | exit j=>
   by_cases q:j=id
   ·have o:(cond (Nat.beq j id) (Ex.normal,K,p) (Ex.exit j,K,p))=(e,z,i):=o;rw[aN.2 q] at o;cases o;refine⟨J,λM a w n g d R m=>wp_block (k1 M a w n g d _ λE u B A F=>?_)⟩;show Exit.inBlock id R (.exit j) u B
    simp only[Exit.inBlock,Zac q];exact m E u B A F
   ·have o:(cond (Nat.beq j id) (Ex.normal,K,p) (Ex.exit j,K,p))=(e,z,i):=o;rw[rM.2 q] at o;cases o;refine⟨J,λM a w n g d R m=>wp_block (k1 M a w n g d _ λE u B A F=>?_)⟩;show Exit.inBlock id R (.exit j) u B
    simp only[Exit.inBlock,Zaa q];exact m E u B A F
 | loop b T=>
  intro s φ e z i h;obtain⟨l,k⟩:=Mr T un _ _ _ _ _ (show(Xo D (Dc P D cd ca mu N un b) un s φ).H _ from h);exact⟨l,λM a w n g d R m=>wp_loop_rounds un (k M a w n g d R m)⟩
 | rangeFunc f ps x y G I=>exact λs φ e z i h=>(te h).elim
 | exit id=>
  intro s φ e z i h;cases aq.1 (show(C.ret _).H _ from h);exact⟨Zah _,λM a w n g _ R m=>wp_exit (m M a w (.refl n _) g)⟩
 | scope b T=>exact λs φ e z i h=>(te h).elim
 | label l=>
  intro s φ e z i h;cases aq.1 (show(C.ret _).H _ from h);exact⟨Zah _,λM a w n g _ R m=>wp_label (m M a w (.refl n _) g)⟩
 | goto l=>exact λs φ e z i h=>(te h).elim
 | ret=>
  intro s φ e z i h;cases aq.1 (show(C.ret _).H _ from h);exact⟨Zah _,λM a w n g _ R m=>wp_ret (m M a w (.refl n _) g)⟩
 | refuse y=>exact λs φ e z i h=>(te h).elim
theorem Qbj (h:(Qme D Z).H v):Dz D v/\wN D v=Z:=by
 match Z,h with
 | [],h=>cases aq.1 (show(C.ret _).H v from h);exact⟨rfl,rfl⟩
 | [x],h=>cases x<;>first | exact(te h).elim | (cases aq.1 (show(C.ret _).H v from h);exact⟨rfl,rfl⟩)
 | x::y::l,h=>cases aq.1 (show(C.ret _).H v from h);exact⟨by simp[Dz,ia];rfl,rfl⟩
theorem Xq (B:aY D) (b:P.follows .mixedOrders) (x:rZ P) (q:rY P D ca) {f:FuncId} (h:(Xp P D cd ca mu un f Z s).H (v,s')):GB P D f Z s v s':=by
 obtain⟨fn,h1,I⟩:=ai.1 h;obtain⟨c,J,K⟩:=ai.1 I;obtain⟨L,N⟩:=bA.1 K;obtain⟨φ,O,Q⟩:=ai.1 N;obtain⟨⟨e,s1,φ1⟩,S,g⟩:=ai.1 Q;obtain⟨i,j⟩:=bA.1 g;obtain⟨vs,m,n⟩:=ai.1 j;obtain⟨u,o,p⟩:=ai.1 n;cases aq.1 p;have a:=bD.1 h1;have C:=bD.1 J;obtain⟨l,k⟩:=Qbi B b x q c _ _ _ _ _ S;refine⟨l,⟨fn,c,a,C⟩,λM A w T V r R U=>calls_of_wp a C ?_⟩;have hl:Z.length<=fn.ntmps:=by have:=cw.1 L;rwa [ia] at this
 refine k M _ w V (Ax O T hl) r _ λG y d t z=>?_
 obtain⟨vs',g1,g2⟩:=xl B m z t.fJ;obtain⟨Y,args⟩:=Qbj o;obtain⟨F,W,X⟩:=ux (res:=v) g2 Y (by rw[args];exact g1);have fin:y.defers=[]/\∃v,(results fn y.tmps).run P d=.ok v d/\R (.returned v) d:=⟨z.defers,F,W,U G F d X t⟩;cases e with
 | normal=>exact fin
 | ret=>exact fin
 | exit id=>cases i
theorem Xr (d:aY D) (b:P.follows .mixedOrders) (c:rZ P) {tab:List (bh D)} (ht:∀k∈tab,DW P D k) (a:List (Nat×List Nat)):∀n,rY P D (inl P D cd un tab a n)
 | 0=>xe d ht
 | n+1=>λf args s v e h=>by
  rcases gY.1 (show(bE (BY (X2 D tab f args s)) (Xp P D cd (inl P D cd un tab a n) ((cA a f).getD []) un f args s) (X2 D tab f args s)).H (v,e) from h) with⟨_,h⟩ | ⟨_,h⟩
  ·exact Xq d b c (Xr d b c ht a n) h
  ·exact xe d ht f args s v e h
end
end sx
end Go.Proofs.YtiiiphndmbabcaaGreat
namespace Go.Proofs
open Go.Proofs.YtiiiphndmbabcaaGreat Go.Proofs.Tryz
open Go.Shelf
def Tryz.sortRg_ren:Go.Shelf.Ren:=⟨λ| 6=>274 | 15=>299 | 14=>298 | 28=>315 | 29=>316 | 20=>307 | 21=>308 | 22=>309 | 23=>310 | 24=>311 | 25=>312 | 26=>313 | 27=>314 | 46=>318 | 47=>319 | 48=>320 | 49=>321 | 50=>322 | 57=>323 | n=>n,λ| 22=>201 | 24=>350 | 25=>353 | 3=>3 | 39=>151 | 0=>0 | 53=>25 | 55=>150 | 4=>4 | 46=>383 | 45=>382 | 50=>272 | 5=>5 | 9=>9 | 66=>392 | 70=>396 | 76=>398 | 77=>297 | n=>n,λ| n=>n⟩
def Tryz.sortRg:Go.Proofs.SlLaysF0.n6 prog Tryz.sortRg_ren:={
 mixed:=by kernel_rfl
 f6:=⟨Tryz.f274.name,by decide,Tryz.func274.trans (ZaR some (by kernel_rfl))⟩
 f14:=⟨Tryz.f298.name,by decide,Tryz.func298.trans (ZaR some (by kernel_rfl))⟩
 f15:=Tryz.func299.trans (ZaR some (by kernel_rfl))
 f20:=⟨Tryz.f307.name,by decide,Tryz.func307.trans (ZaR some (by kernel_rfl))⟩
 f21:=⟨Tryz.f308.name,by decide,Tryz.func308.trans (ZaR some (by kernel_rfl))⟩
 f22:=⟨Tryz.f309.name,by decide,Tryz.func309.trans (ZaR some (by kernel_rfl))⟩
 f23:=⟨Tryz.f310.name,by decide,Tryz.func310.trans (ZaR some (by kernel_rfl))⟩
 f24:=⟨Tryz.f311.name,by decide,Tryz.func311.trans (ZaR some (by kernel_rfl))⟩
 f25:=⟨Tryz.f312.name,by decide,Tryz.func312.trans (ZaR some (by kernel_rfl))⟩
 f26:=⟨Tryz.f313.name,by decide,Tryz.func313.trans (ZaR some (by kernel_rfl))⟩
 f27:=⟨Tryz.f314.name,by decide,Tryz.func314.trans (ZaR some (by kernel_rfl))⟩
 f28:=Tryz.func315.trans (ZaR some (by kernel_rfl))
 f29:=Tryz.func316.trans (ZaR some (by kernel_rfl))
 f46:=⟨Tryz.f318.name,by decide,Tryz.func318.trans (ZaR some (by kernel_rfl))⟩
 f47:=Tryz.func319.trans (ZaR some (by kernel_rfl))
 f48:=Tryz.func320.trans (ZaR some (by kernel_rfl))
 f49:=⟨Tryz.f321.name,by decide,Tryz.func321.trans (ZaR some (by kernel_rfl))⟩
 f50:=⟨Tryz.f322.name,by decide,Tryz.func322.trans (ZaR some (by kernel_rfl))⟩
 f57:=⟨Tryz.f323.name,by decide,Tryz.func323.trans (ZaR some (by kernel_rfl))⟩
 t0:=Tryz.underlying0
 a0:=Tryz.isAgg0
 z0:=Tryz.sizeOf0
 v0:=Tryz.zeroValue0
 t3:=Tryz.underlying3
 a3:=Tryz.isAgg3
 z3:=Tryz.sizeOf3
 v3:=Tryz.zeroValue3
 t4:=Tryz.underlying4
 a4:=Tryz.isAgg4
 z4:=Tryz.sizeOf4
 v4:=Tryz.zeroValue4
 t5:=Tryz.underlying5
 a5:=Tryz.isAgg5
 z5:=Tryz.sizeOf5
 v5:=Tryz.zeroValue5
 t9:=Tryz.underlying9
 a9:=Tryz.isAgg9
 z9:=Tryz.sizeOf9
 v9:=Tryz.zeroValue9
 t22:=Tryz.underlying201
 a22:=Tryz.isAgg201
 z22:=Tryz.sizeOf201
 v22:=Tryz.zeroValue201
 t25:=Tryz.underlying353
 a25:=Tryz.isAgg353
 z25:=Tryz.sizeOf353
 v25:=Tryz.zeroValue353
 t39:=Tryz.underlying151
 a39:=Tryz.isAgg151
 z39:=Tryz.sizeOf151
 v39:=Tryz.zeroValue151
 t45:=Tryz.underlying382
 a45:=Tryz.isAgg382
 z45:=Tryz.sizeOf382
 v45:=Tryz.zeroValue382
 t46:=Tryz.underlying383
 a46:=Tryz.isAgg383
 z46:=Tryz.sizeOf383
 v46:=Tryz.zeroValue383
 t50:=Tryz.underlying272
 a50:=Tryz.isAgg272
 z50:=Tryz.sizeOf272
 v50:=Tryz.zeroValue272
 t53:=Tryz.underlying25
 a53:=Tryz.isAgg25
 z53:=Tryz.sizeOf25
 v53:=Tryz.zeroValue25
 t55:=Tryz.underlying150
 a55:=Tryz.isAgg150
 z55:=Tryz.sizeOf150
 v55:=Tryz.zeroValue150
 t66:=Tryz.underlying392
 a66:=Tryz.isAgg392
 z66:=Tryz.sizeOf392
 v66:=Tryz.zeroValue392
 t70:=Tryz.underlying396
 a70:=Tryz.isAgg396
 z70:=Tryz.sizeOf396
 v70:=Tryz.zeroValue396
 t76:=Tryz.underlying398
 a76:=Tryz.isAgg398
 z76:=Tryz.sizeOf398
 v76:=Tryz.zeroValue398
 t77:=Tryz.underlying297
 a77:=Tryz.isAgg297
 z77:=Tryz.sizeOf297
 v77:=Tryz.zeroValue297 }
end Go.Proofs
namespace Go.Proofs.YtiiiphndmbabcaaGreat
open Go.Proofs.Tryz
namespace cls
open Go.RowKit sl Go.Shelf
def er (r:Rg):List Value:=[.int .i32 r.1,.int .i32 r.2]
def jV (r:Rg):(er r).length=2:=rfl
def Rd.pair {w:World} {a:Option Addr} {l:List Rg} {cap:Nat} (h:Rd er w a l cap) {i:Nat} {x:Rg} (e:l[i]?=some x):
  ∃b off,a=some ⟨b,off,none⟩/\b<w.heap.size/\w.cell? ⟨b,off+i*2,none⟩=some (.int .i32 x.1)/\w.cell? ⟨b,off+i*2+1,none⟩=some (.int .i32 x.2):=by
 obtain⟨b,off,h1,d,c⟩:=h.cells jV e;exact⟨b,off,h1,d,c 0 _ ω rfl,by have:=c 1 (.int .i32 x.2) ω rfl;rwa [<-Za4] at this⟩
def zd (r:Rg):∀u∈er r,u.oneCell':=by
 intro u hu;simp[er] at hu;rcases hu with rfl | rfl<;>rfl
def wB:l_ prog 201 350 2 8:=l_.mk' (z:=.agg #[.int .i32 0,.int .i32 0]) Tryz.underlying201 (by kernel_rfl) rfl (by decide)
abbrev zU (B:Nat) (w:World) (v:Value) (l:List Rg):Prop:=j_ er 2 350 B w v l
set_option maxHeartbeats 2000000 in
theorem Qmh (x y:Int) (w:World):
  Calls prog 273 #[.agg #[.int .i32 x,.int .i32 y]] w λe C=>∃v,e=.returned v/\zU w.heap.size C v (eg (x,y))/\Below w.heap.size w C:=by
 obtain⟨lo,m⟩:∃lo,lo=max x 0:=⟨_,rfl⟩
 obtain⟨hi,l⟩:∃hi,hi=min y 1114111:=⟨_,rfl⟩
 have h:=Lib.hid m
 have f:=Lib.hid l
 clear m l
 go_enter Tryz.func273,Tryz.ntmps273
 go_wp2_with fail
 rw[<-h.out,<-f.out]
 obtain⟨b,a⟩:∃b,b=(w.alloc (.cells #[.int .i32 lo,.int .i32 hi] 350)).alloc (.cells #[.int .i32 0,.int .i32 55295,.int .i32 57344,.int .i32 1114111] 350):=⟨_,rfl⟩
 have D:Rd er b (some ⟨w.heap.size+1,0,none⟩) parts 2:=by
  subst a
  have:=Rd.built (a_:=er) (w:=w.alloc (.cells #[.int .i32 lo,.int .i32 hi] 350)) (E:=350) (cs:=#[.int .i32 0,.int .i32 55295,.int .i32 57344,.int .i32 1114111]) parts 2 rfl rfl ω
  simp_all
 have c:Below w.heap.size w b:=by
  subst a
  exact((Below.refl _ _).alloc (Zah _) _).alloc (by simp) _
 have r:b.cell? ⟨w.heap.size,0,none⟩=some (.int .i32 lo):=by subst a;simp[go_sem]
 have s:b.cell? ⟨w.heap.size,1,none⟩=some (.int .i32 hi):=by subst a;simp[go_sem]
 have di:w.heap.size<b.heap.size:=by subst a;simp;omega
 rw[<-a]
 clear a
 go_loopg [3,19] 2 (λg v i wr=>∃k:Nat,k<=2/\g=2-k/\i=.int .i64 k/\zU b.heap.size wr v ((parts.take k).flatMap (clip (lo,hi)))/\Below w.heap.size w wr/\Below b.heap.size b wr)
 case atStart=>exact⟨0,ω,rfl,rfl,j_.nil _ _ _ _ _,c,Below.refl _ _⟩
 case round=>
  obtain⟨k,hk,rfl,rfl,q,o,lG⟩:=hrel
  have hs:=o.size
  by_cases t:k<2
  ·obtain⟨⟨p0,p1⟩,u⟩:∃x,parts[k]?=some x:=⟨_,Zaf t⟩
   obtain⟨I,L,e2,A,c0,c1⟩:=Rd.pair (D.kept lG) u
   cases e2
   simp only[Za6] at c0 c1
   have J:=(lG.cell (p:=⟨w.heap.size,0,none⟩) di).trans r
   have K:=(lG.cell (p:=⟨w.heap.size,1,none⟩) di).trans s
   have B:w.heap.size<wr.heap.size:=ZbB di lG.size
   have z:=Lib.hid u
   clear u
   have hlen:=fA (clip (lo,hi)) 1 (D4 _) (parts.take k)
   have F:(parts.take k).length<=2:=by simp[parts];omega
   by_cases G:max lo p0<=min hi p1
   ·go_wp2_with (at_builtin;go_must (refine pK wB rfl rfl rfl rfl (by simp) ((q.alloc _).alloc _) (max lo p0,min hi p1) rfl jV zd ω ω (by have:=lG.size;simp;omega) ?_);intro M N H g1)
    go_roundg (2-(k+1))
    case measure=>omega
    case rel=>
     have d:clip (lo,hi) (p0,p1)=[(max lo p0,min hi p1)]:=by unfold clip;rw[Zac G]
     have n:=(q.alloc (.cells #[.int .i32 p0,.int .i32 p1] 350)).alloc (.cells #[.int .i32 (max lo p0),.int .i32 (min hi p1)] 350)
     have j:=((Below.refl wr.heap.size wr).alloc (Zah _) (.cells #[.int .i32 p0,.int .i32 p1] 350)).alloc (by simp) (.cells #[.int .i32 (max lo p0),.int .i32 (min hi p1)] 350)
     refine⟨k+1,ω,rfl,by go_num,?_,?_,?_⟩
     ·rw[tU _ z.out,d]
      exact H
     ·exact nY (o.trans (j.mono hs)) n g1 c.size (by simp;omega)
     ·exact nY (lG.trans (j.mono lG.size)) n g1 (Zah _) (by have:=lG.size;simp;omega)
   ·go_wp2_with fail
    go_roundg (2-(k+1))
    case measure=>omega
    case rel=>
     have d:clip (lo,hi) (p0,p1)=[]:=by unfold clip;rw[Zaa (show ¬max lo p0<=min hi p1 by omega)]
     have j:=((Below.refl wr.heap.size wr).alloc (Zah _) (.cells #[.int .i32 p0,.int .i32 p1] 350)).alloc (by simp) (.cells #[.int .i32 (max lo p0),.int .i32 (min hi p1)] 350)
     refine⟨k+1,ω,rfl,by go_num,?_,o.trans (j.mono hs),lG.trans (j.mono lG.size)⟩
     rw[tU _ z.out,d,Zaw]
     exact(q.alloc _).alloc _
  ·obtain rfl:k=2:=ω
   go_wp2_with fail
   go_ret
   refine⟨_,rfl,?_,o⟩
   have e:eg (x,y)=(parts.take 2).flatMap (clip (lo,hi)):=by simp only[eg,h.out,f.out];rfl
   rw[e]
   exact q.mono c.size
set_option maxHeartbeats 2000000 in
theorem cmp (x y:Rg) (w:World) (h: -2147483648<=x.1-y.1/\x.1-y.1<=2147483647):Calls prog 275 #[.agg #[.int .i32 x.1,.int .i32 x.2],.agg #[.int .i32 y.1,.int .i32 y.2]] w λe a=>e=.returned (.int .i64 (x.1-y.1))/\a=(w.alloc (.cells #[.int .i32 x.1,.int .i32 x.2] 350)).alloc (.cells #[.int .i32 y.1,.int .i32 y.2] 350):=by
 obtain⟨h1,b⟩:=h
 go_enter Tryz.func275,Tryz.ntmps275
 go_wp2_with fail
 go_ret
 simp_all
def Xs {B:Nat} {w:World} {g n cap:Nat} {l:List Rg} (h:zU B w (.slice (some ⟨g,0,none⟩) n cap) l) (a:n=l.length) {i:Nat} {x:Rg} (b:l[i]?=some x):
  w.cell? ⟨g,i*2,none⟩=some (.int .i32 x.1)/\w.cell? ⟨g,i*2+1,none⟩=some (.int .i32 x.2)/\w.frozen? ⟨g,i*2,none⟩=false/\w.frozen? ⟨g,i*2+1,none⟩=false:=
 ⟨(h.cellAt a jV b (t:=0) ω rfl).1,(h.cellAt a jV b (t:=1) ω rfl).1,(h.cellAt a jV b (t:=0) ω rfl).2,(h.cellAt a jV b (t:=1) ω rfl).2⟩
open Go.Sort (Holds HoldsK flatK get_flatK size_flatK putRow putRowK putCells SWO mapBlock onCells PermIn SortedIn alloc_eq_grow grow_grow grow)
structure Dj where
 r:Rg
 lo:0<=r.1/\r.1<=1114111
instance:Inhabited Dj:=⟨⟨(0,0),by decide⟩⟩
variable {w:World} {g:Nat} {Z:Array Obj}
def ev (r:Dj):List Value:=er r.r
def cf (x y:Dj):Int:=x.r.1-y.r.1
theorem Ms:∀(l:List Rg),(∀r∈l,0<=r.1/\r.1<=1114111)->∃b:List Dj,b.map Dj.r=l
 | [],_=>⟨[],rfl⟩
 | r::t,h=>by
  obtain⟨c,ht⟩:=Ms t (λx a=>h x (by simp[a]));exact⟨⟨r,h r (by simp)⟩::c,by simp[ht]⟩
def Mu (a:List Dj):flat er (a.map Dj.r)=flat ev a:=by
 rw[flat,flat,Zdz];rfl
theorem Dd (r:Dj):(ev r).length=2:=rfl
theorem ze (d:Array Dj):(flatK ev 2 d).toList=flat ev d.toList:=by
 apply Zb6;intro t;by_cases ht:t<d.size*2
 ·have h1:(flatK ev 2 d)[t]! =(ev d[t / 2]!)[t % 2]!:=get_flatK ev 2 d t ht;have a:t<(flatK ev 2 d).size:=by simpa using ht
  have c:t / 2<d.size:=ω;have e:d.toList[t / 2]?=some d[t / 2]!:=by
   grind
  have b:=yJ Dd d.toList (t / 2) (t % 2) _ e ω;grind [Dd]
 ·rw[Zbd (by simp;omega),Zbd (by rw[nj Dd];simp;omega)]
theorem wC (x y:Dj):ltOf cf x y=decide (x.r.1<y.r.1):=by
 unfold ltOf cf;grind
def swo:SWO (ltOf cf) where
 irrefl x:=by rw[wC];simp
 trans x y z h1 h2:=by rw[wC] at*;simp at*;omega
 ntrans x y z h1 h2:=by rw[wC] at*;simp at*;omega
def Qbk (bY off size:Nat) (w:World):CmpLays prog 275 #[] ev 2 cf bY off size w:=by
 intro m os a _ x y;have b:=x.lo;have c:=y.lo;refine(cmp x.r y.r _ ω).mono ?_;rintro e d ⟨rfl,rfl⟩;exact⟨rfl,0,_,by rw[Go.Sort.alloc_eq_grow,Go.Sort.alloc_eq_grow,Go.Sort.grow_grow];rfl⟩
theorem FV {n:Nat} {a8:Array Value} {e:TypeId} {fr:Nat×Nat} (d:Array Value) (a:w.heap[g]?=some (.cells a8 e fr)):
  (Go.Sort.grow (Go.Sort.putRow id (Go.Sort.ahead w n) g 0 d) Z).heap[g]?=some (.cells (Go.Sort.putCells id 0 d a8) e fr):=by
 grind [Go.Sort.heap_grow_old,Go.Sort.putRow,Go.Sort.mapBlock,Go.Sort.ahead,Go.Sort.onCells]
theorem JC {n:Nat} (d:Array Value) (k:Nat) (hk:k<w.heap.size) (a:k≠g):(Go.Sort.grow (Go.Sort.putRow id (Go.Sort.ahead w n) g 0 d) Z).heap[k]?=w.heap[k]?:=by
 grind [Go.Sort.heap_grow_old,Go.Sort.putRow,Go.Sort.mapBlock,Go.Sort.ahead]
theorem zV (a8:Array Value) (a:List Value) (h:a.length<=a8.size):(Go.Sort.putCells id 0 a.toArray a8).toList.take a.length=a:=by
 apply Zb6;grind [Go.Sort.putCells]
theorem Qbl (w:World):(isAgg 350).run prog w=.ok true w:=by
 simp_all
theorem sort {v:Value} {l:List Rg} (h:zU g w v l) (M:∀r∈l,0<=r.1/\r.1<=1114111) (hl:l.length<=1000000000) (O:g<=w.heap.size):
  Calls prog 274 #[v,.func (.func 275) #[] #[]] w λe o=>e=.returned (.tuple #[])/\
   ∃C,C.Perm l/\C.Pairwise (λa b=>a.1<=b.1)/\zU g o v C/\Below g w o:=by
 rcases h.2 with⟨rfl,y⟩ | ⟨B,cap,a8,rfl,p,E,y,I,hs,ht⟩
 ·obtain rfl:l=[]:=Zap y;refine(AnyF.slices_SortFunc_none Tryz.sortRg none 0 _ w).mono ?_;rintro e o ⟨rfl,rfl⟩;exact⟨rfl,[],List.Perm.refl _,List.Pairwise.nil,h,Below.refl _ _⟩
 ·obtain⟨d,rfl⟩:=Ms l M;have F:∀args w,(callFunc 275 args).run prog w=.ok (.enter 275 args) w:=enters_of Tryz.func275 (by kernel_rfl) rfl
  have hlen:(d.map Dj.r).length=d.toArray.size:=by simp
  have hH:HoldsK ev 2 w B 0 d.toArray:=by
   intro j t;have u:j<d.length*2:=by simpa using t
   rw[Mu] at ht;have e:(flat ev d)[j]?=some (flatK ev 2 d.toArray)[j]!:=by
    grind [ze]
   grind [World.frozen?,World.cell?]
  rw[hlen];refine(AnyQ.slices_SortFunc Tryz.sortRg 2 Qbl Tryz.sizeOf350 ev Dd (λx=>zd x.r) cf swo 275 #[] B 0 cap d.toArray w F (Qbk B 0 d.toArray.size w) hH (CR E) (by simp at hl ⊢;omega)).mono ?_;rintro e o ⟨rfl,c,n,os,J,A,rfl⟩;obtain⟨z,K,L⟩:=J;simp only[Zb5] at*
  have D:c.toList.Perm d:=by
   have N:c.extract 0 d.length=c:=by rw[<-z];simp
   grind
  have m:(c.toList.map Dj.r).length=(d.map Dj.r).length:=by rw[Za2,Za2,D.length_eq]
  have q:(flatK ev 2 c).toList=flat er (c.toList.map Dj.r):=by rw[ze,Mu]
  have f:flatK ev 2 c=(flat er (c.toList.map Dj.r)).toArray:=by rw[<-q]
  refine⟨trivial,c.toList.map Dj.r,D.map _,?_,?_,?_⟩
  ·rw[List.pairwise_map,ZbD];intro i j hi t s;have G:i<c.size:=by simpa using hi
   have u:j<c.size:=by simpa using t
   have:=A i j (Zaj _) s ω;grind [wC]
  ·unfold zU j_;refine⟨by rw[nj jV],.inr ⟨B,cap,_,by rw[m];simp,p,FV _ E,by rw[m];exact y,I,by simp[putCells,hs],?_⟩⟩;rw[f];have H:(flat er (c.toList.map Dj.r)).length=(c.toList.map Dj.r).length*2:=nj jV _;grind [zV]
  ·refine⟨rfl,rfl,rfl,by simp[sortWorldK,putRowK],λk hk=>JC _ k ω ω⟩
set_option maxHeartbeats 4000000 in
set_option maxRecDepth 100000 in
theorem Xt (a:Option Addr) (l:List Rg) (cap:Nat) (w:World) (h:Rd er w a l l.length) (hl:l.length<=100000000):
  Calls prog 250 #[.slice a l.length cap] w λe w'=>∃v s,e=.returned v/\s.Perm (l.flatMap eg)/\s.Pairwise (λa b=>a.1<=b.1)/\zU w.heap.size w' v (iL s)/\Below w.heap.size w w':=by
 have hm:=h.max
 have hle:=h.le
 unfold maxLen at hm
 have H:=Lib.hid h
 clear h
 go_enter Tryz.func250,Tryz.ntmps250
 go_wp2_with fail
 go_loopg [3,12] l.length (λg v i wr=>∃k:Nat,k<=l.length/\g=l.length-k/\i=.int .i64 k/\zU w.heap.size wr v ((l.take k).flatMap eg)/\Below w.heap.size w wr)
 case atStart=>exact⟨0,ω,rfl,rfl,j_.nil _ _ _ _ _,Below.refl _ _⟩
 case round=>
  obtain⟨k,hk,rfl,rfl,d,m⟩:=hrel
  have hs:=m.size
  have hlen:=fA eg 2 tq (l.take k)
  have hlt2:(l.take k).length<=l.length:=by simp;omega
  by_cases C:k<l.length
  ·obtain⟨⟨c,f⟩,A⟩:∃x,l[k]?=some x:=⟨_,Zaf C⟩
   obtain⟨b,off,rfl,W,c0,c1⟩:=Rd.pair (H.out.kept m) A
   have HX:=Lib.hid A
   clear A
   go_wp2_with fail
   refine(Qmh c f _).mono ?_
   rintro e E ⟨v1,rfl,O,b1⟩
   obtain⟨a1,G,rfl,j,B⟩:=O.rd
   have hr2:=tq (c,f)
   have J:zU w.heap.size E u3 ((l.take k).flatMap eg):=(d.alloc _).below b1 (Zah _)
   have lG:Below w.heap.size w E:=m.trans ((((Below.refl wr.heap.size wr).alloc (Zah _) _).mono hs).trans (b1.mono (by simp;omega)))
   have M:=lG.size
   have Y:((l.take k).flatMap eg).length+(eg (c,f)).length<=1000000000:=ω
   clear O b1 B
   go_wp2_with (at_builtin;go_must (refine yK wB rfl rfl rfl rfl J j rfl jV zd Y ω M ?_);intro v2 w2 P g2)
   go_roundg (l.length-(k+1))
   case measure=>omega
   case rel=>exact⟨k+1,ω,rfl,by go_num,by rw[tU _ HX.out];exact P,Below.grow lG J g2 (Zah _) M⟩
  ·obtain rfl:k=l.length:=ω
   rw[ZaM] at d hlen
   have I:∀r∈l.flatMap eg,F3 r:=by
    grind [QJ]
   have o:=Lib.hid I
   go_wp2_with fail
   refine(sort d (λr S=>⟨(o.out r S).1,by have:=o.out r S;unfold F3 at this;omega⟩) ω hs).mono ?_
   rintro e E ⟨rfl,s,F,K,O,b1⟩
   have qX:s.length=(l.flatMap eg).length:=F.length_eq
   have hsl2:s.length<=200000000:=ω
   have lG:Below w.heap.size w E:=m.trans b1
   have HI:Hid (∀r∈s,F3 r):=Lib.hid λr S=>o.out r (F.mem_iff.1 S)
   have HP:=Lib.hid F
   have U:=Lib.hid K
   clear F K qX o I d m b1
   obtain⟨a1,G,rfl,j,B⟩:=O.rd
   have X:=j.max
   have hle1:=j.le
   unfold maxLen at X
   have RD:=Lib.hid j
   clear j B O
   go_wp2_with fail
   go_loopg [4,25] s.length (λg v i wr=>∃k:Nat,k<=s.length/\g=s.length-k/\i=.int .i64 k/\zU E.heap.size wr v (iL (s.take k))/\Below E.heap.size E wr)
   case atStart=>exact⟨0,ω,rfl,rfl,j_.nil _ _ _ _ _,Below.refl _ _⟩
   case round=>
    obtain⟨k,hk,rfl,rfl,d,m⟩:=hrel
    have D:=m.size
    have hlen:=xm (s.take k)
    have htl:(s.take k).length<=s.length:=by simp;omega
    have z:∀p∈iL (s.take k),F3 p:=M6 λp F=>HI.out p (Zcg F)
    by_cases C:k<s.length
    ·obtain⟨⟨c,f⟩,A⟩:∃x,s[k]?=some x:=⟨_,Zaf C⟩
     have hxi:F3 (c,f):=HI.out _ (ZaJ A)
     obtain⟨Z,hx1,hx2⟩:=hxi
     simp only at Z hx1 hx2
     obtain⟨b,off,rfl,W,c0,c1⟩:=Rd.pair (RD.out.kept m) A
     have he:=D5 A
     have Q:=Lib.hid he
     clear A he
     generalize iL (s.take k)=out at d hlen z Q
     rcases Zcu out with rfl | ⟨N,p,rfl⟩
     ·obtain⟨ao,co,rfl,rdo,_⟩:=d.rd
      clear rdo
      have n:cg [] (c,f)=[]++[(c,f)]:=rfl
      have q:=Lib.hid n
      clear n z
      simp only[Zak] at*
      go_wp2_with fail
      go_quiet (fail)
      go_wp2_with (at_builtin;go_must (refine pK wB rfl rfl rfl rfl (by simp) ((d.alloc _).drewN _) (c,f) rfl jV zd (by simp) ω (by simp;omega) ?_);intro v2 w2 P g2)
      go_roundg (s.length-(k+1))
      case measure=>omega
      case rel=>
       refine⟨k+1,ω,rfl,by go_num,?_,?_⟩
       ·rw[Q.out,q.out];exact P
       ·exact nY (pL (m.alloc D _) _) ((d.alloc _).drewN _) g2 (Zah _) (by simp;omega)
     ·rw[Zcv] at*
      have n:cg (N++[p]) (c,f)=if c<=p.2+1 then N++[(p.1,max p.2 f)] else N++[p]++[(c,f)]:=by simp[cg]
      have q:=Lib.hid n
      obtain⟨hp0,hp1,hp2⟩:=z p (by simp)
      obtain⟨g,co,rfl,V,hg,hlc,hcm⟩:=d.form (by simp)
      obtain⟨d0,d1,f0,f1⟩:=Xs d rfl (i:=N.length) (x:=p) (by simp)
      have T:=Lib.hid d
      clear n z d
      simp only[Zab,Zae,Zak] at*
      cases R:decide (c<=p.2+1)
      ·have L:p.2+1<c:=by simpa using R
       clear R
       go_wp2_with fail
       go_quiet (fail)
       go_wp2_with (at_builtin;go_must (refine pK wB rfl rfl rfl rfl (by simp) ((T.out.alloc _).drewN _) (c,f) rfl jV zd (by simp;omega) ω (by simp;omega) ?_);intro v2 w2 P g2)
       go_roundg (s.length-(k+1))
       case measure=>omega
       case rel=>
        refine⟨k+1,ω,rfl,by go_num,?_,?_⟩
        ·rw[Q.out,q.out,Zaa ω];exact P
        ·exact nY (pL (m.alloc D _) _) ((T.out.alloc _).drewN _) g2 (Zah _) (by simp;omega)
      ·have L:c<=p.2+1:=by simpa using R
       clear R
       go_wp2_with fail
       go_quiet (fail)
       go_wp2_with fail
       go_region
       all_goals go_wp2_with fail
       go_roundg (s.length-(k+1))
       case measure=>omega
       case rel=>
        refine⟨k+1,ω,rfl,by go_num,?_,?_⟩
        ·rw[Q.out,q.out,Zac L]
         have:=j_.store (t:=1) (y:=(p.1,max p.2 f)) (u:=.int .i32 (max p.2 f)) ((T.out.alloc (.cells #[.int .i32 c,.int .i32 f] 350)).drewN (nq+1)) (by simp) jV (i:=N.length) (x:=p) (by simp) ω rfl
         simpa using this
        ·exact(pL (m.alloc D _) _).setCell V _
    ·obtain rfl:k=s.length:=ω
     go_wp2_with fail
     go_ret
     refine⟨_,s,rfl,HP.out,U.out,?_,?_⟩
     ·rw[ZaM] at d
      exact d.mono lG.size
     ·exact lG.trans (m.mono lG.size)
end cls
set_option maxRecDepth 100000
set_option maxHeartbeats 4000000
namespace sx
noncomputable section
open Go Go.RowKit cls syn
def Qmi {M:Pm D} {x:Rg} (h:uy x):LR M (D.a_ 6 x) (er x):=by
 obtain⟨h1,a,b,_⟩:=h;exact .cons (.int (cL.2 ⟨by show(-2147483648:Int)<=x.1;omega,by show x.1<=(2147483647:Int);omega⟩)) (.cons (.int (cL.2 ⟨by show(-2147483648:Int)<=x.2;omega,by show x.2<=(2147483647:Int);omega⟩)) .nil)
def avV (v:AV D.E):Value:=match v with
 | .int k n=>.int k n
 | _=>.nilIface
theorem Mw:∀y:List Rg,sl.flat er y=(aV (D:=D) 6 y).map avV
 | []=>rfl
 | x::t=>by
  show er x++sl.flat er t=([AV.int .i32 x.1,AV.int .i32 x.2]++aV (D:=D) 6 t).map avV
  rw[Mw t,ZcG];rfl
theorem Qmj {M:Pm D} {H:Hp D} {w:World} {y:List Rg} {v:Value} (h:VR M (.list 6 y) v) (f:ee M H w) (hl:y.length<=100000000):∃a cap,v=.slice a y.length cap/\sl.Rd er w a y y.length:=by
 have k:y.length<=maxLen:=by grind [maxLen]
 cases h with
 | list hs l n=>
  rename_i b o cap
  refine⟨_,_,rfl,⟨λh=>(nomatch h),Zah _,k,λg e m=>?_⟩⟩;cases e;refine⟨rfl,f.slt (hs 0 m 0 _ rfl),λj u hu=>?_⟩;rw[Mw,Zbk,ZdM] at hu;obtain⟨v,d,rfl⟩:=hu;obtain⟨p,h1,i⟩:=pW fL f hs j v d;obtain⟨x,_,c⟩:=ZbG.1 (ZaJ d);have c:v=AV.int .i32 x.1\/v=AV.int .i32 x.2:=by simpa using(show v∈[AV.int .i32 x.1,AV.int .i32 x.2] from c)
  rcases c with rfl | rfl<;>(cases i;exact h1)
 | ed=>exact⟨_,_,rfl,⟨λ_=>⟨rfl,rfl⟩,Zah _,Zaj _,λg _ h=>absurd h (Nat.lt_irrefl 0)⟩⟩
theorem Mx:Ok dB:=by
 refine⟨⟨f250,_,by kernel_rfl,cN (by kernel_rfl)⟩,λy u M A w B k _ R q=>?_⟩;obtain⟨v,rfl,I⟩:=yd B;obtain⟨a,cap,rfl,m⟩:=Qmj I k u;refine(Xt a y cap w m u).mono λe p ⟨v,s,E,H,l,t,r⟩=>?_
 subst E;have j:=D7 H l;rw[QO j] at t j;rcases t.2 with⟨rfl,h⟩ | ⟨g,cap,a8,rfl,C,L,h,F,hs,ht⟩
 ·have z:aU y=[]:=Zap h;exact q M _ p (by show VR M (.list 6 (aU y)) _;rw[z];exact .ed) (jj k r 0)
 ·have D:LR M (aV 6 (aU y)) (sl.flat er (aU y)):=by
   have:=KW (M:=M) (c:=6) (f:=λx=>x) (a_:=er) (xs:=aU y) λx J=>Qmi (j.1.1 x J)
   change LR M _ (((aU y).map λx:Rg=>x).flatMap er) at this;rw[List.map_id'] at this;exact this
  have d:∀i v,(aV 6 (aU y))[i]?=some v->∃n,p.cell? ⟨g,0+i,none⟩=some n/\VR M v n:=λi v e=>by
   obtain⟨n,h1,K⟩:=D.get e;grind [World.cell?]
  refine q _ _ p (VR.list (b:=g) (o:=0) (cz.add fL) (by have G:(aU y).length<=cap:=h;unfold maxLen at F;show(aU y).length<=_;omega) h) (Y2 k r (g:=g) (o:=0) C d 0)
end
end sx
namespace ins
open Go Go.RowKit Go.Lib
abbrev R:TypeId:=275
abbrev S:TypeId:=269
section
variable {P:Program}
theorem oh (w:World) (l p ty elem:TypeId) (k b o c e:Nat) (a:Addr) (d g:Nat) (cs:List Value)
  (hu:P.underlying l=some (.slice elem)) (hs:(P.info? elem).map (·.size)=some k) (n:cs.length=Nat.min d c*k)
  (f:∀j v,cs[j]?=some v->w.cell? (a.add j)=some v) (q:∀j,j<cs.length->(w.cell? ⟨b,o+j,none⟩).isSome) (r:∀j,j<cs.length->w.frozen? ⟨b,o+j,none⟩=false) (h1:∀v∈cs,v.oneCell'):
  (Builtin.copy_ #[l,p] ty #[.slice (some ⟨b,o,none⟩) c e,.slice (some a) d g]).run P w=.ok (goInt (Nat.min d c)) (w.setCells b o cs):=by
 have hl:=run_loadCells_list (P:=P) w a cs f;have h:=run_storeCells_cells (P:=P) b o cs 0 w (by assumption) (by assumption) h1;cases m:P.info? elem with
 | none=>simp[m] at hs
 | some i=>
  have hi:i.size=k:=by grind
  simp[Builtin.copy_,Zza hu,Builtin.lenOf,Builtin.firstCells,sizeOf,typeInfo,m,hi,<-n,hl,h]
end
def My:(Tryz.prog.info? R).map (·.size)=some 2:=by kernel_rfl
set_option maxHeartbeats 4000000 in
set_option maxRecDepth 100000 in
theorem shift (b off n c i d a vc:Nat) (cs p:List Value) (w:World) (hi:i<n) (J:n+1<=c) (U:n<=1000000) (z:d≠b)
  (hcl:cs.length=n*2) (hvl:p.length=2)
  (E:∀j v,cs[j]?=some v->w.cell? ⟨b,off+j,none⟩=some v) (m:∀j,j<(n+1)*2->(w.cell? ⟨b,off+j,none⟩).isSome=true) (u:∀j,j<(n+1)*2->w.frozen? ⟨b,off+j,none⟩=false)
  (M:∀j v,p[j]?=some v->w.cell? ⟨d,a+j,none⟩=some v) (B:∀v∈cs,v.oneCell'=true) (C:∀v∈p,v.oneCell'=true)
  (V X:TypeId) (N O:Nat) (K:w.shape? d=some (V,N)) (L:w.shape? b=some (X,O)) (H:O≠0) (F:w.frozen? ⟨d,a,none⟩=false) (G:w.frozen? ⟨d,N,none⟩=false):
  Calls prog 172 #[.slice (some ⟨b,off,none⟩) n c,.int .i64 i,.slice (some ⟨d,a,none⟩) 1 vc] w λe w'=>
   e=.returned (.slice (some ⟨b,off,none⟩) (n+1) c)/\w'=(w.drew.setCells b (off+(i+1)*2) (cs.drop (i*2))).setCells b (off+i*2) p:=by
 have I:∀o Q A,(callFunc 210 #[.slice (some ⟨d,a,none⟩) 1 vc,.slice (some ⟨b,o,none⟩) Q A]).run prog w=.ok (.value (.bool false)) w:=λo Q A=>by
  rw[run_callFunc_extern Tryz.func210 (by kernel_rfl) (by kernel_rfl) (by kernel_rfl) (e:=Extern.SlicesOverlaps.overlaps #[S,S] #[4]) (by kernel_rfl),
   Lib.run_overlaps_apart w S 4 R Tryz.underlying269 2 Tryz.sizeOf275 ⟨d,a,none⟩ ⟨b,o,none⟩ 1 vc Q A z V X N O K L H F G]
  rfl
 have hdl:(cs.drop (i*2)).length=(n-i)*2:=by grind
 have mixed:Tryz.prog.follows .mixedOrders=true:=by kernel_rfl
 have hw1:IntKind.i64.wrap ((i:Int)+1)=(i:Int)+1:=by rw[IntKind.wrap_i64];omega
 have lG:(0:Int)<=(i:Int)+1:=ω
 have hin:i<=n:=ω
 have Y:¬(c=i+1):=ω
 have Z:(i:Int)<=(n:Int)+1:=ω
 have hb4:¬(c=i):=ω
 have s:∀ty f T,(Builtin.copy_ #[S,S] ty #[.slice (some ⟨b,off+(i+1)*2,none⟩) (n-i) f,.slice (some ⟨b,off+i*2,none⟩) (n+1-i) T]).run prog w.drew=.ok (goInt ((n-i:Nat):Int)) (w.drew.setCells b (off+(i+1)*2) (cs.drop (i*2))):=λty f T=>by
  have hm:Nat.min (n+1-i) (n-i)=n-i:=by grind
  have:=oh (P:=prog) w.drew S S ty R 2 b (off+(i+1)*2) (n-i) f ⟨b,off+i*2,none⟩ (n+1-i) T (cs.drop (i*2)) Tryz.underlying269 My ω
   (λj v l=>by rw[Addr.add_lit,Za4];exact E (i*2+j) v (by grind))
   (λj l=>by rw[Za4];exact m _ ω) (λj l=>by rw[Za4];exact u _ ω) (λv hv=>B v (Zc5 hv))
  grind
 obtain⟨q,g⟩:∃q,q=w.drew.setCells b (off+(i+1)*2) (cs.drop (i*2)):=⟨_,rfl⟩
 have y:∀k,k<(n+1)*2->(q.cell? ⟨b,off+k,none⟩).isSome=true:=λk hk=>by
  rw[g]
  exact isSome_setCells b _ _ _ (λj l=>by rw[Za4];exact m _ ω) _ (m k hk)
 have t:∀(W:World),(∀x,W.cell? x=q.cell? x)->(∀x,W.frozen? x=q.frozen? x)->∀ty f,(Builtin.copy_ #[S,S] ty #[.slice (some ⟨b,off+i*2,none⟩) (n+1-i) f,.slice (some ⟨d,a,none⟩) 1 vc]).run prog W=.ok (goInt 1) (W.setCells b (off+i*2) p):=λW r D ty f=>by
  have hm:Nat.min 1 (n+1-i)=1:=by grind
  have:=oh (P:=prog) W S S ty R 2 b (off+i*2) (n+1-i) f ⟨d,a,none⟩ 1 vc p Tryz.underlying269 My ω
   (λj v l=>by
    rw[Addr.add_lit,r,g,World.cell?_setCells_out b _ _ _ _ (λh _=>absurd h z)]
    exact M j v l)
   (λj l=>by rw[r,Za4];exact y _ ω) (λj l=>by rw[D,g,World.frozen?_setCells,Za4];exact u _ ω) C
  grind
 go_enter Tryz.func172,Tryz.ntmps172
 go_wp2_with (simp only[I])
 go_region_law_o (refine step_copy_runI rfl _ _ S S rfl _ _ (by simp[Act.eval,Act.put]) (by simp[Act.eval,Act.put]) (s _ _ _) ?_)
 go_wp2_with (at_builtin;refine wpList_copy_runI _ rfl _ _ S S rfl _ _ rfl rfl (t _ (λ_=>rfl) (λ_=>rfl) _ _) ?_)
 go_ret
 simp_all
abbrev zR:Value:=.agg #[.string ⟨#[]⟩,.int .i64 0]
def Qmk:(Tryz.prog.info? R).map (λi=>(i.zero,i.size,i.bytes))=some (some zR,2,24):=by kernel_rfl
abbrev O4 (w:World) (n c i:Nat) (cs:List Value):Array Value:=(cs.take (i*2)).toArray++Builtin.zeroCells zR.cells (n+1-i)++Builtin.zeroCells zR.cells (grownCap w (n+1) c R-(n+1))
theorem O5 (n:Nat):(Builtin.zeroCells zR.cells n).size=n*2:=by
 simp[Builtin.zeroCells,Value.cells]
theorem BE {w:World} {n c i:Nat} {cs:List Value} (hi:i<=n) (a:cs.length=n*2):(O4 w n c i cs).size=grownCap w (n+1) c R*2:=by
 grind [grownCap_ge,O5]
set_option maxHeartbeats 4000000 in
set_option maxRecDepth 100000 in
theorem grow (b off n c i p d vc:Nat) (cs f:List Value) (w:World) (hi:i<n) (hnc:n<=c) (s:c<n+1) (hbig:n<=1000000)
  (hcl:cs.length=n*2) (hvl:f.length=2)
  (r:∀j v,cs[j]?=some v->w.cell? ⟨b,off+j,none⟩=some v)
  (Q:∀j v,f[j]?=some v->w.cell? ⟨p,d+j,none⟩=some v) (A:∀v∈cs,v.oneCell'=true) (B:∀v∈f,v.oneCell'=true):
  Calls prog 172 #[.slice (some ⟨b,off,none⟩) n c,.int .i64 i,.slice (some ⟨p,d,none⟩) 1 vc] w λe w'=>
   e=.returned (.slice (some ⟨w.heap.size,0,none⟩) (n+1) (grownCap w (n+1) c R))/\
   w'=(((w.alloc (.cells (O4 w n c i cs) R)).drew.setCells w.heap.size (i*2) f).drew).setCells w.heap.size ((i+1)*2) (cs.drop (i*2)):=by
 have mixed:Tryz.prog.follows .mixedOrders=true:=by kernel_rfl
 have⟨i0,N,U,X,V⟩:=info_parts Qmk
 have M:b<w.heap.size:=block_lt_of_cell (r 0 _ (Zaf ω))
 have T:p<w.heap.size:=block_lt_of_cell (Q 0 _ (Zaf ω))
 have O:(n:Int)+1-(i:Int)=((n+1-i:Nat):Int):=ω
 have z:i+(n+1-i)=n+1:=ω
 have hold:(Builtin.firstCells i0.size i (.slice (some ⟨b,off,none⟩) i c)).run prog w.drew=.ok (cs.take (i*2)).toArray w.drew:=by
  rw[X]
  exact run_firstCells_some w.drew 2 i ⟨b,off,none⟩ i c (cs.take (i*2)) (by grind) (λj v g=>by
   rw[Addr.add_lit]
   rw[Za7] at g
   split at g
   ·exact r j v g
   ·cases g)
 have t:∀ty,(Builtin.append_ #[S,3] ty #[.slice (some ⟨b,off,none⟩) i c,.int .i64 ((n:Int)+1-(i:Int))]).run prog w=
   .ok (.slice (some ⟨w.heap.size,0,none⟩) (n+1) (grownCap w (n+1) c R)) (w.drew.alloc (.cells (O4 w n c i cs) R)):=λty=>by
  have h:=Lib.run_append_grow_zeros w S 3 ty R i0 _ .i64 .i64 Tryz.underlying269 Tryz.underlying3 N U (some ⟨b,off,none⟩) i c (cs.take (i*2)) hold (n+1-i) ω ω ω ω (by grind) (by rw[V,z];exact growslice_fits s ω)
  grind
 obtain⟨G,Z⟩:∃G,G=grownCap w (n+1) c R:=⟨_,rfl⟩
 obtain⟨a,m⟩:∃a:Array Value,a=O4 w n c i cs:=⟨_,rfl⟩
 have hGn:n+1<=G:=by grind [grownCap_ge]
 have J:a.size=G*2:=by grind [BE]
 have I:(n+1)*2<=a.size:=ω
 rw[<-Z] at t ⊢
 rw[<-m] at t ⊢
 obtain⟨k,l⟩:∃k,k=w.drew.alloc (.cells a R):=⟨_,rfl⟩
 have hN:∀j,j<(n+1)*2->(k.cell? ⟨w.heap.size,j,none⟩).isSome=true:=λj g=>by
  rw[l,World.cell?_alloc_at (w:=w.drew) a _ w.heap.size j rfl,Za5 ω];rfl
 have hNf:∀j,k.frozen? ⟨w.heap.size,j,none⟩=false:=λj=>by rw[l];exact World.frozen?_alloc_at (w:=w.drew) a _ w.heap.size j rfl
 have H:∀j v,w.cell? ⟨b,j,none⟩=some v->k.cell? ⟨b,j,none⟩=some v:=λj v h=>by rw[l,World.cell?_alloc_past (w:=w.drew) _ b j M];exact h
 have hOv:∀j v,w.cell? ⟨p,j,none⟩=some v->k.cell? ⟨p,j,none⟩=some v:=λj v h=>by rw[l,World.cell?_alloc_past (w:=w.drew) _ p j T];exact h
 have y:∀(W:World),(∀x,W.cell? x=k.cell? x)->(∀x,W.frozen? x=k.frozen? x)->∀ty q,(Builtin.copy_ #[S,S] ty #[.slice (some ⟨w.heap.size,i*2,none⟩) (n+1-i) q,.slice (some ⟨p,d,none⟩) 1 vc]).run prog W=.ok (goInt 1) (W.setCells w.heap.size (i*2) f):=λW u K ty q=>by
  have hm:Nat.min 1 (n+1-i)=1:=by grind
  have:=oh (P:=prog) W S S ty R 2 w.heap.size (i*2) (n+1-i) q ⟨p,d,none⟩ 1 vc f Tryz.underlying269 My ω
   (λj v g=>by grind [Addr.add_lit])
   (λj g=>by grind) (λj g=>by grind) B
  grind
 have hGim:¬(G=i+1):=ω
 have hci:¬(c=i):=ω
 have L:b≠w.heap.size:=ω
 have hdl:(cs.drop (i*2)).length=(n-i)*2:=by grind
 have o:∀(W:World),(∀x,W.cell? x=(k.setCells w.heap.size (i*2) f).cell? x)->(∀x,W.frozen? x=(k.setCells w.heap.size (i*2) f).frozen? x)->∀ty q Y,(Builtin.copy_ #[S,S] ty #[.slice (some ⟨w.heap.size,(i+1)*2,none⟩) (n-i) q,.slice (some ⟨b,off+i*2,none⟩) (n-i) Y]).run prog W=.ok (goInt ((n-i:Nat):Int)) (W.setCells w.heap.size ((i+1)*2) (cs.drop (i*2))):=λW u K ty q Y=>by
  have hm:Nat.min (n-i) (n-i)=n-i:=by grind
  have:=oh (P:=prog) W S S ty R 2 w.heap.size ((i+1)*2) (n-i) q ⟨b,off+i*2,none⟩ (n-i) Y (cs.drop (i*2)) Tryz.underlying269 My ω
   (λj v g=>by
    rw[Addr.add_lit,u,World.cell?_setCells_out _ _ _ _ _ (λh _=>absurd h L),Za4]
    exact H _ v (r (i*2+j) v (by grind)))
   (λj g=>by grind [isSome_setCells])
   (λj g=>by grind [World.frozen?_setCells]) (λv hv=>A v (Zc5 hv))
  grind
 have C:∀x,((w.alloc (.cells a R)).drew).cell? x=(w.drew.alloc (.cells a R)).cell? x:=λx=>rfl
 have D:∀x,((w.alloc (.cells a R)).drew).frozen? x=(w.drew.alloc (.cells a R)).frozen? x:=λx=>rfl
 have E:∀x,(((w.alloc (.cells a R)).drew.setCells w.heap.size (i*2) f).drew).cell? x=((w.drew.alloc (.cells a R)).setCells w.heap.size (i*2) f).cell? x:=λx=>rfl
 have F:∀x,(((w.alloc (.cells a R)).drew.setCells w.heap.size (i*2) f).drew).frozen? x=((w.drew.alloc (.cells a R)).setCells w.heap.size (i*2) f).frozen? x:=λx=>rfl
 have hw1:IntKind.i64.wrap ((i:Int)+1)=(i:Int)+1:=by rw[IntKind.wrap_i64];omega
 have lG:(0:Int)<=(i:Int)+1:=ω
 have hin:i<=n:=ω
 clear O z hold m Z I J
 go_enter Tryz.func172,Tryz.ntmps172
 go_wp2_with (first
  | (at_builtin;refine Lib.wpList_append_run _ rfl _ _ _ _ rfl _ _ rfl rfl _ _ (t _) ?_)
  | (at_builtin;refine wpList_copy_runI _ rfl _ _ S S rfl _ _ rfl rfl (y _ C D _ _) ?_)
  | (at_builtin;refine wpList_copy_runI _ rfl _ _ S S rfl _ _ rfl rfl (o _ (λ_=>rfl) (λ_=>rfl) _ _ _) ?_))
 go_region_law_o (refine step_copy_runI rfl _ _ S S rfl (.slice (some ⟨w.heap.size,(i+1)*2,none⟩) (n-i) (G-(i+1))) (.slice (some ⟨b,off+i*2,none⟩) (n-i) (c-i)) (by simp[Act.eval,Act.put]) (by simp[Act.eval,Act.put]) (o _ E F 3 (G-(i+1)) (c-i)) ?_)
 go_wp2
 go_ret
 simp_all
end ins
set_option maxRecDepth 100000
set_option maxHeartbeats 4000000
namespace sx
noncomputable section
open Go Go.RowKit cls syn
abbrev QfZ:=List Row×Nat×Row
def rwO (n:Nat) (l:List Row):Nat×AO D.E:=(n,.arr 16 l 275 false)
def Qdu (a:List (AV D.E)) (s:St D.E):C QfZ:=match a with
 | [l,i,r]=>az (aL D s 16 l) λl=>aP (cT i) λ_ i=>az (aL D s 16 r) λr=>.ret (l,i.toNat,(r:List Row).getD 0 IS)
 | _=>.fail
def lE (l:List Row) (i:Nat) (r:Row):List Row:=l.take i++r::l.drop i
def s6:bh D:=⟨172,QfZ,Qdu,λy=>y.2.1<=y.1.length/\y.1.length<=1000,λy=>[.own 0 2 (ag y.1),Qvo y.2.1,.own 1 2 1],λy=>[rwO 0 y.1,rwO 1 [y.2.2]],
 λy=>.own 2 2 (ag (lE y.1 y.2.1 y.2.2)),λy=>[rwO 2 (lE y.1 y.2.1 y.2.2)],2,3⟩
def Qf1:bh D:=⟨172,QfZ,Qdu,λy=>y.2.1=y.1.length/\y.1.length<=1000,λy=>[.own 0 2 (ag y.1),Qvo (ag y.1),.own 1 2 1],λy=>[rwO 0 y.1,rwO 1 [y.2.2]],
 λy=>.own 2 2 (ag (y.1++[y.2.2])),λy=>[rwO 2 (y.1++[y.2.2])],2,3⟩
def Qdv (y:(List Row)×Nat×Row):Prop:=let a:=ag y.1;let q1:=([y.2.2]:List Row);let b:=ag (bM y.1 q1);aG 0 a/\aG a a/\aj (aB 1 0) (a=ag (y.1++q1)/\y.1=(y.1++q1)/\True) (aj (aB a a) (bJ b 24/\b=ag (y.1++q1)/\bM y.1 q1=(y.1++q1)/\True) (False))
def Qdw (y:XJ):Prop:=let b:=ag y.l;let q1:=jM y.l y.k;let c:=rD y.l y.k y.v;let d:=((lL y.l y.k:Nat):Int);let a:=d.toNat;let e:=([Row.mk y.k y.v]:List Row);let f:=List.getD e 0 IS;Iv (TbP (XJ.mk y.l y.k 0))/\RAI y.k b y.l (aj q1 (aG 0 d/\aw d b/\false=(!q1)/\b=ag c/\cS y.l a (Row.mk (gt (Row.mk [] 0) y.l a).k y.v)=c/\True) (Iv (a<=y.l.length/\y.l.length<=1000)/\aa [b] (d=(a:Int)/\ag e=1/\e=([f]:List Row)/\aa [y.l] (true=(!q1)/\ag (lE y.l a f)=ag c/\lE y.l a f=c/\True))))
end
end sx
end Go.Proofs.YtiiiphndmbabcaaGreat
