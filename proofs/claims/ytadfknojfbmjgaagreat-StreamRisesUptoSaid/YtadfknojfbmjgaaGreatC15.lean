/- StreamRises: a part of the proof. -/
import Derived.Test.YtadfknojfbmjgaaGreatC14
import Derived.Test.YtadfknojfbmjgaaGreatC12
import Derived.Test.YtadfknojfbmjgaaGreatC11
import Derived.Test.YtadfknojfbmjgaaGreatC13
set_option linter.all false
namespace Go.Proofs.YtadfknojfbmjgaaGreat
set_option maxRecDepth 100000
set_option maxHeartbeats 4000000
namespace sx
noncomputable section
open Go Go.RowKit cls syn
def Qip:Ok Yw:=okZ (V:=Qcc) [Q4,MQ] Tryz.f104 (λ_=>cX ()) ⟨QbZ,Qb0⟩ λy a=>by
 unfold Qcc;simp only[dq,aj];obtain⟨h1,b⟩:y.p.code.length<=4096/\y.p.ah.length<=1000:=a;exact⟨h1,by show y.p.ah.length+0<=1000000;omega⟩
theorem Qo4 (y:List fP) (a:Et y):RS y:=by
 unfold RS;simp only[QaU,dq,aj,aU,aO,dA,Zad];obtain⟨h1,b⟩:=a;refine⟨⟨0,rfl,rfl,rfl,Zaj _⟩,λx c=>⟨λk=>?_,λk=>?_⟩⟩
 ·grind [List.take_append_getElem]
 ·grind
def Qce:Ok MZ:=okZ [] Tryz.f128 Qo1 trivial Qo4
def Qiq:Ok Yx:=okZ (V:=Qcd) [Q4,MZ] Tryz.f101 (λ_=>cX ()) ⟨QbZ,Qce⟩ λy a=>by
 unfold Qcd;simp only[dq,aj];exact a
structure iT where
 a:Int
 b:Int
 c:Int
 d:Int
 n:Int
def Ga (y:iT):List (Nat×AO D.E):=[(0,.cells [.int .u8 y.a,.int .u8 y.b,.int .u8 y.c,.int .u8 y.d,.int .i64 y.n] 198 false)]
def M3 (v:AV D.E) (s:St D.E):C iT:=match v with
 | .ptr b _=>av (cE (s.h.get b)) λo=>match o with
  | .cells cs _ _=>match cs with
   | [a,b,c,d,n]=>aI (cT a) λ_ a=>aI (cT b) λ_ b=>aI (cT c) λ_ c=>aI (cT d) λ_ d=>aI (cT n) λ_ n=>.ret ⟨a,b,c,d,n⟩
   | _=>.fail
  | _=>.fail
 | _=>.fail
def ec (y:iT):By:=[b8 y.a,b8 y.b,b8 y.c,b8 y.d].take y.n.toNat
def CZ (k:Nat):List Gt:=List.replicate k (65533,1)
def L2:iT:=⟨0,0,0,0,0⟩
def unC:bf D:=⟨65,Unit,λ_ _=>.ret (),λ_=>True,λ_=>[],λ_=>[],λ_=>.ptr 0 0,λ_=>Ga L2,0,1⟩
def uv (y:iT):Prop:=0<=y.n/\y.n<=4
def uhC:bf D:=⟨94,iT,λa s=>match a with
 | [p]=>M3 p s
 | _=>.fail,uv,λ_=>[.ptr 0 0],Ga,λy=>.list 0 (ec y),Ga,1,1⟩
def ueC:bf D:=⟨102,iT,λa s=>match a with
 | [p]=>M3 p s
 | _=>.fail,uv,λ_=>[.ptr 0 0],Ga,λy=>.list 13 (CZ y.n.toNat),λy=>Ga { y with n:=0 },1,1⟩
def ueO (y:ueC.Y):cH D:=⟨[],[],[(28,⟨Nat,[0],λk=>[(3,.grow 13 (CZ k) 1)],[],λk=>Ga { y with n:=y.n-k }++[(1,.tok 13 117)],2,λk=>k<=y.n.toNat,λk=>y.n.toNat-k⟩)],[],1,[]⟩
def lQ (l:By) (i:Nat):Int:=if i<l.length then((l.getD i 0).toNat:Int) else 0
def uoF (l:By):iT:=⟨lQ l 0,lQ l 1,lQ l 2,lQ l 3,if l.length<=4 then l.length else 4⟩
def uoC:bf D:=⟨100,By,λa s=>QW a s,λy=>y=[]\/gz y,λy=>[.list 0 y],λ_=>[],λ_=>.tuple [.ptr 0 0,Qu9 0],λy=>Ga (uoF y),0,1⟩
def lD (y:iT) (i:Nat):Int:=if i=0 then y.a else if i=1 then y.b else if i=2 then y.c else y.d
def y7 (y:iT) (k:Nat):iT:=⟨if 0+k<y.n.toNat then lD y (0+k) else y.a,if 1+k<y.n.toNat then lD y (1+k) else y.b,if 2+k<y.n.toNat then lD y (2+k) else y.c,if 3+k<y.n.toNat then lD y (3+k) else y.d,y.n-k⟩
def udC:bf D:=⟨99,iT×Int,λa s=>match a with
 | [p,k]=>av (M3 p s) λy=>aI (cT k) λ_ k=>.ret (y,k)
 | _=>.fail,λy=>uv y.1/\1<=y.2/\y.2<=y.1.n,λy=>[.ptr 0 0,Qu9 y.2],λy=>Ga y.1,λ_=>.tuple [],λy=>Ga (y7 y.1 y.2.toNat),1,1⟩
def Qit (y:Unit):Prop:=aa ([0,0,0,0,0]:List Int) (True)
def Qiu (y:iT):Prop:=let f:=([b8 y.a]:List UInt8);let g:=([b8 y.a,b8 y.b]:List UInt8);let h:=([b8 y.a,b8 y.b,b8 y.c]:List UInt8);let i:=([b8 y.a,b8 y.b,b8 y.c,b8 y.d]:List UInt8);let e:=λp:Prop=>aa [y.a,y.b,y.c,y.d] p;ag (az y.n 4) (fits (ab i) 1/\i=ec y/\e (4=y.n/\True)) (ag (az y.n 3) (fits (ab h) 1/\h=ec y/\e (3=y.n/\True)) (ag (az y.n 2) (fits (ab g) 1/\g=ec y/\e (2=y.n/\True)) (ag (az y.n 1) (fits (ab f) 1/\f=ec y/\e (1=y.n/\True)) (az y.n 0/\Tt 1 ([]=ec y/\e (0=y.n/\True))))))
def Qiv (y:iT):Prop:=let e:=y.n.toNat;let f:=λp:Prop=>aa [y.a,y.b,y.c,y.d] p;(∃z:Nat,[]=CZ z/\f (y.n=(y.n-(z:Int))/\(Iv (z<=e))))/\(∀x:Nat,let h:=ax 0 (y.n-(x:Int));let g:=aZ (CZ x) [(65533,1)];(Iv (x<=e))->ag h (fits (ab g) 16/\∃z:Nat,g=CZ z/\f (da .i64 (y.n-(x:Int)) 1=(y.n-(z:Int))/\(Iv (z<=e/\(e-z)<(e-x))))) (CZ x=CZ e/\f ((y.n-(x:Int))=0/\True)))
def Qet (y:List UInt8):Prop:=let a:Prop:=(Iv True/\aa ([0]:List Int) (cj (ax 0 (eO y)) (sat y 0) 0=lQ y 0/\cj (ax 1 (eO y)) (sat y 1) 0=lQ y 1/\cj (ax 2 (eO y)) (sat y 2) 0=lQ y 2/\cj (ax 3 (eO y)) (sat y 3) 0=lQ y 3/\fN 4 (eO y)=ite (y.length<=4) (y.length:Int) 4/\True));Iv True/\aa [y] (ag (!(gz y)) (ag (ax 0 (ab y)) (False) (a)) (a))
def Qiw (y:iT×Int):Prop:=let e:=y.2.toNat;let g:=y.1.n.toNat;let i:=ite ((2+e)<g) (lD y.1 (2+e)) y.1.c;let f:=ite ((0+e)<g) (lD y.1 (0+e)) y.1.a;let h:=ite ((1+e)<g) (lD y.1 (1+e)) y.1.b;let m:Prop:=(y.1.d=ite ((3+e)<g) (lD y.1 (3+e)) y.1.d/\3=(y.1.n-(e:Int))/\True);let l:Prop:=(y.1.c=i/\y.1.d=ite ((3+e)<g) (lD y.1 (3+e)) y.1.d/\2=(y.1.n-(e:Int))/\True);let k:Prop:=(y.1.b=h/\y.1.c=i/\y.1.d=ite ((3+e)<g) (lD y.1 (3+e)) y.1.d/\1=(y.1.n-(e:Int))/\True);let j:Prop:=(y.1.a=f/\y.1.b=h/\y.1.c=i/\y.1.d=ite ((3+e)<g) (lD y.1 (3+e)) y.1.d/\0=(y.1.n-(e:Int))/\True);ag (az y.1.n 4) (ag (az y.2 4) (j) (ag (az y.2 3) (y.1.d=f/\k) (ag (az y.2 2) (y.1.c=f/\y.1.d=h/\l) (ag (az y.2 1) (y.1.b=f/\y.1.c=h/\y.1.d=i/\m) (az y.2 0/\y.1.a=f/\y.1.b=h/\y.1.c=i/\y.1.d=ite ((3+e)<g) (lD y.1 (3+e)) y.1.d/\4=(y.1.n-(e:Int))/\True))))) (ag (az y.1.n 3) (ag (az y.2 4) (False) (ag (az y.2 3) (j) (ag (az y.2 2) (y.1.c=f/\k) (ag (az y.2 1) (y.1.b=f/\y.1.c=h/\l) (az y.2 0/\y.1.a=f/\y.1.b=h/\y.1.c=i/\m))))) (ag (az y.1.n 2) (ag (az y.2 4) (False) (ag (az y.2 3) (False) (ag (az y.2 2) (j) (ag (az y.2 1) (y.1.b=f/\k) (az y.2 0/\y.1.a=f/\y.1.b=h/\l))))) (ag (az y.1.n 1) (ag (az y.2 4) (False) (ag (az y.2 3) (False) (ag (az y.2 2) (False) (ag (az y.2 1) (j) (az y.2 0/\y.1.a=f/\k))))) (az y.1.n 0/\ag (az y.2 4) (False) (ag (az y.2 3) (False) (ag (az y.2 2) (False) (ag (az y.2 1) (False) (az y.2 0/\j))))))))
theorem Qew:Ok unC:=okZ (V:=Qit) [] Tryz.f65 (λ_=>cX ()) trivial λy a=>by
 grind [Qit]
theorem Qix:Ok uhC:=okZ (V:=Qiu) [] Tryz.f94 (λ_=>⟨[(1,.tZ 0 4 4)],[],[],[],1,[]⟩) trivial λy a=>by
 unfold Qiu;simp only[dq,gg,iH,aj,aU];obtain⟨h1,b⟩:0<=y.n/\y.n<=4:=a;unfold ec;refine⟨λk=>⟨by grind,by simp_all,k.symm⟩,λ_=>⟨λk=>⟨by grind,by simp_all,k.symm⟩,λ_=>⟨λk=>⟨by grind,by simp_all,k.symm⟩,λ_=>⟨λk=>⟨by grind,by simp_all,k.symm⟩,λ_=>?_⟩⟩⟩⟩;have k:y.n=0:=ω;simp_all
def RT (k:Nat):CZ k++[(65533,1)]=CZ (k+1):=(List.replicate_succ' ..).symm
theorem Qo5:Ok ueC:=okZ (V:=Qiv) [] Tryz.f102 ueO trivial λy a=>by
 unfold Qiv;simp only[QaU,dq,aj,aU,aO];obtain⟨h1,b⟩:0<=y.n/\y.n<=4:=a;refine⟨⟨0,rfl,ω,Zaj _⟩,λx c=>⟨λk=>⟨?_,x+1,RT x,?_,ω,ω⟩,λk=>?_⟩⟩
 ·grind [CZ]
 ·grind
 ·grind
theorem YC (y:By) (i:Nat):cj (ax i (eO y)) (sat y i) 0=lQ y i:=by
 grind [cj,lQ,sat]
theorem uoH (y:By) (a:y=[]\/gz y):Qet y:=by
 unfold Qet;simp only[QaU,dq,aj,Zan,Zao];grind [fN,YC]
def Qo6:Ok uoC:=okZ [qT,unC] Tryz.f100 (λ_=>cX ()) ⟨BZ,Qew⟩ uoH
def Qo7:Ok udC:=okZ (V:=Qiw) [] Tryz.f99 (λ_=>⟨[(0,.tZ 0 4 4),(0,.Xf 1 4)],[],[],[],1,[]⟩) trivial λy i=>by
 unfold Qiw;simp only[dq,gg,iH];obtain⟨⟨h1,e⟩,f,g⟩:(0<=y.1.n/\y.1.n<=4)/\1<=y.2/\y.2<=y.1.n:=i;obtain⟨⟨a,b,c,d,n⟩,k⟩:=y;simp only at h1 e f g ⊢;have h:n=1\/n=2\/n=3\/n=4:=ω;have hk:k=1\/k=2\/k=3\/k=4:=ω;rcases h with rfl | rfl | rfl | rfl<;>rcases hk with rfl | rfl | rfl | rfl<;>first | omega | simp[lD]
end
end sx
namespace sx
open Go Go.RowKit
variable {M:Pm D} {H:Hp D} {w w':World}
variable {a:AV D.E} {g:Nat} {A:Array Value} {l:List (AV D.E)}
def tq (a:ey M H w) (h:Below w.heap.size w w') (lo:Nat):cL H M w H M w' lo lo:=.world a h.size (λc b=>h.block c b) h.os h.tape h.output lo
theorem xA (h:LR M [a] A.toList):∃v,A=#[v]/\VR M a v:=by
 obtain⟨l⟩:=A;obtain⟨v,r,e,h1,b⟩:=h.bX;have:=b.oq;grind
theorem KE {b:AV D.E} (h:LR M [a,b] A.toList):∃v u,A=#[v,u]/\VR M a v/\VR M b u:=by
 obtain⟨l⟩:=A;obtain⟨v,r,e,h1,c⟩:=h.bX;obtain⟨u,g,e2,f,d⟩:=c.bX;have:=d.oq;grind
theorem YD (r:ey M H w) (n:Below w.heap.size w w') {o c:Nat} {xs:List (D.E c)} (B:w.heap.size<=g)
  (s:∀i v,(aM c xs)[i]?=some v->∃m,w'.cell? ⟨g,o+i,none⟩=some m/\VR M v m) (lo:Nat):cL H M w H ⟨M.pl,cV M.sg g o (aM c xs)⟩ w' lo lo:=by
 have k:=cL.world r n.size (λc s=>n.block c s) n.os n.tape n.output lo;have hle:sx.Le M ⟨M.pl,cV M.sg g o (aM c xs)⟩:=⟨λ_ _ h=>h,kJ λq _ _=>by
  cases hs:M.sg g q with
  | none=>rfl
  | some v=>have:=r.slt hs;omega⟩
 have u:∀b f a,H b=some f->M.pl b=some a->a.real->a.bN≠g:=λb f a h d l=>by
  obtain⟨m2,h1,x⟩:=r.obj b f h;rw[d] at h1;cases h1;have:=x.lt l;omega
 refine⟨⟨λb f h=>let ⟨a,d,z⟩:=k.gn.obj b f h;⟨a,d,z.mono hle λ_=>rfl⟩,k.gn.inj,λb q v h=>?_,λb f a h hw d l j y=>?_,λb c xs e a h d l=>(k.gn.J2 b c xs e a h d l).mono hle.2,k.gn.ml⟩,
  λ_ _=>rfl,hle.2,λb q h=>?_,k.size,k.aH,k.born,k.Me,k.os,k.tape,k.output,k.le⟩
 ·replace h:cV M.sg g o (aM c xs) b q=some v:=h;unfold cV at h;split at h
  ·rename_i t
   obtain⟨rfl,h1,x⟩:=t;obtain⟨m,p,e2⟩:=s _ v h;rw[show o+(q-o)=q by omega] at p;exact⟨(dX jU (ZaJ h)).2,m,p,e2.mono hle⟩
  ·obtain⟨A,m,p,e2⟩:=k.gn.gE b q v h;exact⟨A,m,p,e2.mono hle⟩
 ·show cV M.sg g o (aM c xs) a.bN j=none
  unfold cV;rw[Zaa λq=>u b f a h d l q.1];exact k.gn.sep b f a h hw d l j y
 ·grind [mD]
theorem KF {α:Type} {c:Nat} {f:D.E c->α} {aX:α->List Value}:∀{xs:List (D.E c)},(∀x∈xs,LR M (D.aX c x) (aX (f x)))->LR M (aM c xs) ((xs.map f).flatMap aX)
 | [],_=>.nil
 | x::xs,h=>(h x (by simp)).app (KF (xs:=xs) λy a=>h y (by grind))
def LR.cell {v:List Value} (h:LR M l v) (e:l[g]?=some a):∃b,v[g]?=some b/\VR M a b:=h.get e
def qW {M:Pm D} {k:IntKind} {n:Int} {v:Value} (h:VR M (.int k n) v):v=.int k n:=by cases h;rfl
theorem pb (f:ey M H w) {b:Nat} {cs:List (AV D.E)} {e:TypeId} {ro:Bool} (g:H b=some (.cells cs e ro)) {c:MI} (j:M.pl b=some c):
  c.real/\c.sh=0/\c.qE=cs.length/\∃C a,w.heap[c.bN]?=some (.cells C e a)/\LR M cs C.toList/\(ro=false->a.1=a.2\/cs.length<=a.1/\c.je=1):=by
 obtain⟨l,d,⟨k,hs,ht⟩,C,a,h1,n,o,p,q⟩:=f.obj b _ g;rw[j] at d;cases d;refine⟨k,hs,ht,C,a,h1,⟨(by grind),λi v r m e2=>?_⟩,λh=>by grind⟩;grind
end sx
set_option maxRecDepth 100000
set_option maxHeartbeats 4000000
namespace sx
noncomputable section
open Go Go.RowKit cls syn
def rF (n:Nat) (y:iT):By:=[b8 y.a,b8 y.b,b8 y.c,b8 y.d].take n
def RU (n:Nat):bf D:=⟨74,iT,λa s=>match a with
 | [p]=>match p with
  | .sub b _ m=>bE (Nat.beq m n) (M3 (.ptr b 0) s) .fail
  | _=>.fail
 | _=>.fail,λ_=>True,λ_=>[.sub 0 0 n],Ga,λy=>.tuple [.int .i32 (bq (rF n y)).1,Qu9 (bq (rF n y)).2,.bool (gz (rF n y))],Ga,1,1⟩
def sr (y:iT) (c:Int):iT:=⟨if y.n=0 then c else y.a,if y.n=1 then c else y.b,if y.n=2 then c else y.c,if y.n=3 then c else y.d,y.n+1⟩
def iU (y:iT):Gt:=if (bq (ec y)).2=0 then(65533,1) else bq (ec y)
def nK:Nat->iT->List Gt->iT×List Gt
 | 0,y,l=>(y,l)
 | k+1,y,l=>if 0<y.n/\gz (ec y)=false then nK k (y7 y (iU y).2.toNat) (l++[iU y]) else(y,l)
def rG (y:iT) (c:Int):iT×List Gt:=nK 4 (sr y c) []
def RV:bf D:=⟨67,iT×Int,λa s=>match a with
 | [p,c]=>av (M3 p s) λy=>aI (cT c) λ_ c=>.ret (y,c)
 | _=>.fail,λy=>0<=y.1.n/\y.1.n<=3,λy=>[.ptr 0 0,.int .u8 y.2],λy=>Ga y.1,λy=>.list 13 (rG y.1 y.2).2,λy=>Ga (rG y.1 y.2).1,1,1⟩
def qp (y:iT×Int) (x:iT×List Gt):Prop:=0<=x.1.n/\x.1.n<=4/\x.2.length+x.1.n.toNat<=4/\nK x.1.n.toNat x.1 x.2=rG y.1 y.2
def Qo8 (y:RV.Y):cH D:=⟨[(1,.tZ 0 4 3),(5,.tZ 0 4 4)],[],[(124,⟨iT×List Gt,[0],λx=>[(5,.grow 13 x.2 1)],[],λx=>Ga x.1++[(1,.tok 13 117)],2,qp y,λx=>x.1.n.toNat⟩)],[(3,⟨Unit,[0],λ_=>[],[],λ_=>Ga { sr y.1 y.2 with n:=y.1.n },1,λ_=>True,λ_=>0⟩)],1,[]⟩
def RW (y:iT×Int):Prop:=let e:=(rG y.1 y.2).1;let t:=(rG y.1 y.2).2;let v:=ite (y.1.n=2) y.2 y.1.c;let C:=ite (y.1.n=0) y.2 y.1.a;let D:=ite (y.1.n=1) y.2 y.1.b;let E:=ite (y.1.n=3) y.2 y.1.d;(ag (az y.1.n 3) (∃z:Unit,y.1.a=C/\y.1.b=D/\y.1.c=v/\y.2=E/\3=y.1.n/\(Iv True)) (ag (az y.1.n 2) (∃z:Unit,y.1.a=C/\y.1.b=D/\y.2=v/\y.1.d=E/\2=y.1.n/\(Iv True)) (ag (az y.1.n 1) (∃z:Unit,y.1.a=C/\y.2=D/\y.1.c=v/\y.1.d=E/\1=y.1.n/\(Iv True)) (az y.1.n 0/\∃z:Unit,y.2=C/\y.1.b=D/\y.1.c=v/\y.1.d=E/\0=y.1.n/\(Iv True)))))/\(∀x:Unit,(Iv True)->(∃z:iT×(List (Int×Int)),[]=z.2/\C=z.1.a/\D=z.1.b/\v=z.1.c/\E=z.1.d/\an .i64 y.1.n 1=z.1.n/\(Iv (qp y z)))/\(∀x1:iT×(List (Int×Int)),let p:=iT.mk x1.1.a x1.1.b x1.1.c x1.1.d 2;let q:=iT.mk x1.1.a x1.1.b x1.1.c x1.1.d 1;let r:=iT.mk x1.1.a x1.1.b x1.1.c x1.1.d 3;let s:=iT.mk x1.1.a x1.1.b x1.1.c x1.1.d 4;let j:=aZ x1.2 [(65533,1)];let k:=bq (rF 2 p);let l:=bq (rF 3 r);let m:=bq (rF 4 s);let o:=bq (rF 1 q);let f:=o.2.toNat;let g:=m.2.toNat;let h:=l.2.toNat;let i:=k.2.toNat;let u:=aZ x1.2 [(l.1,l.2)];let w:=aZ x1.2 [(k.1,k.2)];let A:=aZ x1.2 [(m.1,m.2)];let B:=aZ x1.2 [(o.1,o.2)];(Iv (qp y x1))->ag (ax 0 x1.1.n) (ag (az x1.1.n 4) (Iv True/\aa ([x1.1.a,x1.1.b,x1.1.c,x1.1.d,4]:List Int) (ag (gz (rF 4 s)) (x1.2=t/\x1.1.a=e.a/\x1.1.b=e.b/\x1.1.c=e.c/\x1.1.d=e.d/\4=e.n/\True) (ag (az m.2 0) (fits (ab j) 16/\Iv (uv s/\(1:Int)<=(1:Int)/\(1:Int)<=(4:Int))/\aa ([1,x1.1.a,x1.1.b,x1.1.c,x1.1.d,4]:List Int) (∃z:iT×(List (Int×Int)),j=z.2/\ite (1<Int.toNat 4) (lD s 1) x1.1.a=z.1.a/\ite (2<Int.toNat 4) (lD s 2) x1.1.b=z.1.b/\ite (3<Int.toNat 4) (lD s 3) x1.1.c=z.1.c/\ite (4<Int.toNat 4) (lD s 4) x1.1.d=z.1.d/\(4-((Int.toNat 1:Nat):Int))=z.1.n/\(Iv (qp y z/\z.1.n.toNat<x1.1.n.toNat)))) (fits (ab A) 16/\Iv (uv s/\1<=m.2/\m.2<=4)/\aa ([m.2,x1.1.a,x1.1.b,x1.1.c,x1.1.d,4]:List Int) (∃z:iT×(List (Int×Int)),A=z.2/\ite ((0+g)<Int.toNat 4) (lD s (0+g)) x1.1.a=z.1.a/\ite ((1+g)<Int.toNat 4) (lD s (1+g)) x1.1.b=z.1.b/\ite ((2+g)<Int.toNat 4) (lD s (2+g)) x1.1.c=z.1.c/\ite ((3+g)<Int.toNat 4) (lD s (3+g)) x1.1.d=z.1.d/\(4-(g:Int))=z.1.n/\(Iv (qp y z/\z.1.n.toNat<x1.1.n.toNat))))))) (ag (az x1.1.n 3) (Iv True/\aa ([x1.1.a,x1.1.b,x1.1.c,x1.1.d,3]:List Int) (ag (gz (rF 3 r)) (x1.2=t/\x1.1.a=e.a/\x1.1.b=e.b/\x1.1.c=e.c/\x1.1.d=e.d/\3=e.n/\True) (ag (az l.2 0) (fits (ab j) 16/\Iv (uv r/\(1:Int)<=(1:Int)/\(1:Int)<=(3:Int))/\aa ([1,x1.1.a,x1.1.b,x1.1.c,x1.1.d,3]:List Int) (∃z:iT×(List (Int×Int)),j=z.2/\ite (1<Int.toNat 3) (lD r 1) x1.1.a=z.1.a/\ite (2<Int.toNat 3) (lD r 2) x1.1.b=z.1.b/\ite (3<Int.toNat 3) (lD r 3) x1.1.c=z.1.c/\ite (4<Int.toNat 3) (lD r 4) x1.1.d=z.1.d/\(3-((Int.toNat 1:Nat):Int))=z.1.n/\(Iv (qp y z/\z.1.n.toNat<x1.1.n.toNat)))) (fits (ab u) 16/\Iv (uv r/\1<=l.2/\l.2<=3)/\aa ([l.2,x1.1.a,x1.1.b,x1.1.c,x1.1.d,3]:List Int) (∃z:iT×(List (Int×Int)),u=z.2/\ite ((0+h)<Int.toNat 3) (lD r (0+h)) x1.1.a=z.1.a/\ite ((1+h)<Int.toNat 3) (lD r (1+h)) x1.1.b=z.1.b/\ite ((2+h)<Int.toNat 3) (lD r (2+h)) x1.1.c=z.1.c/\ite ((3+h)<Int.toNat 3) (lD r (3+h)) x1.1.d=z.1.d/\(3-(h:Int))=z.1.n/\(Iv (qp y z/\z.1.n.toNat<x1.1.n.toNat))))))) (ag (az x1.1.n 2) (Iv True/\aa ([x1.1.a,x1.1.b,x1.1.c,x1.1.d,2]:List Int) (ag (gz (rF 2 p)) (x1.2=t/\x1.1.a=e.a/\x1.1.b=e.b/\x1.1.c=e.c/\x1.1.d=e.d/\2=e.n/\True) (ag (az k.2 0) (fits (ab j) 16/\Iv (uv p/\(1:Int)<=(1:Int)/\(1:Int)<=(2:Int))/\aa ([1,x1.1.a,x1.1.b,x1.1.c,x1.1.d,2]:List Int) (∃z:iT×(List (Int×Int)),j=z.2/\ite (1<Int.toNat 2) (lD p 1) x1.1.a=z.1.a/\ite (2<Int.toNat 2) (lD p 2) x1.1.b=z.1.b/\ite (3<Int.toNat 2) (lD p 3) x1.1.c=z.1.c/\ite (4<Int.toNat 2) (lD p 4) x1.1.d=z.1.d/\(2-((Int.toNat 1:Nat):Int))=z.1.n/\(Iv (qp y z/\z.1.n.toNat<x1.1.n.toNat)))) (fits (ab w) 16/\Iv (uv p/\1<=k.2/\k.2<=2)/\aa ([k.2,x1.1.a,x1.1.b,x1.1.c,x1.1.d,2]:List Int) (∃z:iT×(List (Int×Int)),w=z.2/\ite ((0+i)<Int.toNat 2) (lD p (0+i)) x1.1.a=z.1.a/\ite ((1+i)<Int.toNat 2) (lD p (1+i)) x1.1.b=z.1.b/\ite ((2+i)<Int.toNat 2) (lD p (2+i)) x1.1.c=z.1.c/\ite ((3+i)<Int.toNat 2) (lD p (3+i)) x1.1.d=z.1.d/\(2-(i:Int))=z.1.n/\(Iv (qp y z/\z.1.n.toNat<x1.1.n.toNat))))))) (ag (az x1.1.n 1) (Iv True/\aa ([x1.1.a,x1.1.b,x1.1.c,x1.1.d,1]:List Int) (ag (gz (rF 1 q)) (x1.2=t/\x1.1.a=e.a/\x1.1.b=e.b/\x1.1.c=e.c/\x1.1.d=e.d/\1=e.n/\True) (ag (az o.2 0) (fits (ab j) 16/\Iv (uv q/\(1:Int)<=(1:Int)/\(1:Int)<=(1:Int))/\aa ([1,x1.1.a,x1.1.b,x1.1.c,x1.1.d,1]:List Int) (∃z:iT×(List (Int×Int)),j=z.2/\ite (1<Int.toNat 1) (lD q 1) x1.1.a=z.1.a/\ite (2<Int.toNat 1) (lD q 2) x1.1.b=z.1.b/\ite (3<Int.toNat 1) (lD q 3) x1.1.c=z.1.c/\ite (4<Int.toNat 1) (lD q 4) x1.1.d=z.1.d/\(1-((Int.toNat 1:Nat):Int))=z.1.n/\(Iv (qp y z/\z.1.n.toNat<x1.1.n.toNat)))) (fits (ab B) 16/\Iv (uv q/\1<=o.2/\o.2<=1)/\aa ([o.2,x1.1.a,x1.1.b,x1.1.c,x1.1.d,1]:List Int) (∃z:iT×(List (Int×Int)),B=z.2/\ite ((0+f)<Int.toNat 1) (lD q (0+f)) x1.1.a=z.1.a/\ite ((1+f)<Int.toNat 1) (lD q (1+f)) x1.1.b=z.1.b/\ite ((2+f)<Int.toNat 1) (lD q (2+f)) x1.1.c=z.1.c/\ite ((3+f)<Int.toNat 1) (lD q (3+f)) x1.1.d=z.1.d/\(1-(f:Int))=z.1.n/\(Iv (qp y z/\z.1.n.toNat<x1.1.n.toNat))))))) (az x1.1.n 0/\False))))) (x1.2=t/\x1.1.a=e.a/\x1.1.b=e.b/\x1.1.c=e.c/\x1.1.d=e.d/\x1.1.n=e.n/\True)))
def YF {n:Nat} (h:n<=4) (y:iT):(rF n y).length=n:=by unfold rF;rw[Zar];exact Zbj h
theorem Qex {M e:Pm D} {k d:IntKind} {a b:Int} {c:Bool} {v:Value} (h:VR M (.tuple [.int k a,.int d b,.bool c]) v):VR e (.tuple [.int k a,.int d b,.bool c]) v:=by
 cases h with
 | tuple hl n=>
  rename_i l
  obtain⟨l⟩:=l;obtain⟨r,o,rfl,h1,f⟩:=LR.bX (M:=M) ⟨hl,n⟩;obtain⟨s,p,rfl,g,i⟩:=f.bX;obtain⟨v3,q,rfl,j,m⟩:=i.bX;obtain rfl:=m.oq;cases h1 with
  | int i1=>cases g with
   | int i2=>cases j;exact VR.Dg (.cons (.int i1) (.cons (.int i2) (.cons (.bool c) .nil)))
theorem KG (n:Nat) (h1:1<=n) (P:n<=4):Ok (RU n):=by
 refine⟨⟨Tryz.f74,_,by kernel_rfl,di (by kernel_rfl)⟩,λy hy M A w Q p _ R S=>?_⟩;obtain⟨v,rfl,U⟩:=xA Q;have t:∃k cap,M.pl 0=some k/\v=.slice (some ⟨k.bN,k.sh,none⟩) n cap/\n<=cap:=by
  cases U with
  | sub h N B G=>exact⟨_,_,h,rfl,B⟩
  | oQ=>omega
 obtain⟨k,cap,G,rfl,L⟩:=t;obtain⟨N,hs,ht,C,fz,hC,hl,T⟩:=pb p (b:=0) rfl G;have H:∀j,M.sg k.bN j=none:=λj=>p.sep 0 _ k (show ch (Ga y) 0=_ from rfl) rfl G N j trivial
 let l:By:=rF n y
 let x:Pm D:=⟨λ_=>none,cV M.sg k.bN 0 (aM (D:=D) 0 l)⟩
 have s:Gs M x:=kJ λo _ _=>H o
 have r:aM (D:=D) 0 l=([AV.int .u8 y.a,.int .u8 y.b,.int .u8 y.c,.int .u8 y.d].take n:List (AV D.E)):=by
  obtain⟨v0,r0,Y,i0,hl⟩:=hl.bX;obtain⟨v1,r1,Z,i1,hl⟩:=hl.bX;obtain⟨v2,r2,e2,i2,hl⟩:=hl.bX;obtain⟨v3,r3,e3,i3,hl⟩:=hl.bX;cases i0 with
  | int i0=>cases i1 with
   | int i1=>cases i2 with
    | int i2=>cases i3 with
     | int i3=>
      have f:aM (D:=D) 0 [b8 y.a,b8 y.b,b8 y.c,b8 y.d]=[AV.int .u8 y.a,.int .u8 y.b,.int .u8 y.c,.int .u8 y.d]:=by
       show[AV.int .u8 ((b8 y.a).toNat:Int),.int .u8 ((b8 y.b).toNat:Int),.int .u8 ((b8 y.c).toNat:Int),.int .u8 ((b8 y.d).toNat:Int)]=_
       rw[o5 i0,o5 i1,o5 i2,o5 i3];rfl
      have g:=ny (D:=D) jU 0 [b8 y.a,b8 y.b,b8 y.c,b8 y.d] n;rw[f] at g;exact g.trans (by show List.take (n*1) _=_;rw[Zb8])
 have z:ey x (λ_=>none) w:=⟨λb o h=>(nomatch h),λb X o o' m m' h=>(nomatch h),λb o v h=>by
  replace h:cV M.sg k.bN 0 (aM (D:=D) 0 l) b o=some v:=h;unfold cV at h;split at h
  ·rename_i F
   obtain⟨rfl,_,_⟩:=F;have q:=(dX jU (ZaJ h)).2;rw[r,Za7] at h;split at h
   ·have O:[AV.int (E:=D.E) .u8 y.a,.int .u8 y.b,.int .u8 y.c,.int .u8 y.d,.int .i64 y.n][o]?=some v:=by
     grind
    obtain⟨u,K,a2⟩:=hl.get O;exact⟨q,u,by grind [World.cell?],a2.pure q s⟩
   ·cases h
  ·obtain⟨q,u,K,a2⟩:=p.gE b o v h;exact⟨q,u,K,a2.pure q s⟩,λb o m h=>(nomatch h),λb c xs e m h=>(nomatch h),⟨p.ml.1,λb o m h=>(nomatch h)⟩⟩
 have hlen:l.length=n:=YF P y;have J:VR x (.list 0 l) (.slice (some ⟨k.bN,k.sh,none⟩) n cap):=by
  rw[hs,<-hlen];exact VR.list (c:=0) (ck.add jU) (by show l.length<=_;omega) (by show l.length<=_;omega)
 refine BZ.2 l trivial x _ w (.cons J .nil) z (λ_ _=>rfl) R λW u V I i=>S M u V (Qex I) ?_
 exact cL.world p i.size (λc B=>i.aH c B λ⟨b,o,m,h,_⟩=>nomatch h) i.os i.tape i.output 1
theorem B9 {y:iT} (h:0<y.n) (a:y.n<=4):1<=(iU y).2/\(iU y).2<=y.n:=by
 grind [ec,iU,jj]
theorem pY:∀(k:Nat) (y:iT) (l:List Gt),y.n<=4->y.n.toNat<=k->nK k y l=nK y.n.toNat y l
 | 0,y,l,_,h=>by grind
 | k+1,y,l,b,h=>by
  by_cases a:0<y.n/\gz (ec y)=false
  ·obtain⟨m,c⟩:∃m,y.n.toNat=m+1:=⟨y.n.toNat-1,ω⟩;have ht:=B9 a.1 b;have d:(y7 y (iU y).2.toNat).n=y.n-(iU y).2:=by show y.n-((iU y).2.toNat:Int)=_;omega
   rw[c,nK,nK,Zac a,Zac a,pY k _ _ ω ω,pY m _ _ ω ω]
  ·rw[nK,Zaa a];cases y.n.toNat with
   | zero=>rfl
   | succ m=>rw[nK,Zaa a]
theorem Qey (y:iT×Int) (x:iT) (l:List Gt) (h0:0<x.n) (f:qp y (x,l)):
  (gz (ec x)->l=(rG y.1 y.2).2/\x.a=(rG y.1 y.2).1.a/\x.b=(rG y.1 y.2).1.b/\x.c=(rG y.1 y.2).1.c/\x.d=(rG y.1 y.2).1.d/\x.n=(rG y.1 y.2).1.n)/\
  (gz (ec x)=false->1<=(iU x).2/\(iU x).2<=x.n/\(l++[iU x]).length<=4/\qp y (y7 x (iU x).2.toNat,l++[iU x])/\(y7 x (iU x).2.toNat).n.toNat<x.n.toNat):=by
 obtain⟨e,a2,a3,a4⟩:=f;simp only at e a2 a3 a4;obtain⟨m,g⟩:∃m,x.n.toNat=m+1:=⟨x.n.toNat-1,ω⟩;refine⟨λh=>?_,λh=>?_⟩
 ·grind [nK]
 ·have ht:=B9 h0 a2;have i:(y7 x (iU x).2.toNat).n=x.n-(iU x).2:=by show x.n-((iU x).2.toNat:Int)=_;omega
  have hl:(l++[iU x]).length=l.length+1:=by simp
  refine⟨ht.1,ht.2,ω,⟨by grind,by grind,by grind,?_⟩,ω⟩;grind [nK,pY]
theorem vJ (y:iT×Int) (a b c d:Int) (m:Nat) (l:List Gt) (h0:0<m) (h:m<=4) (f:qp y (⟨a,b,c,d,m⟩,l)):
  (gz (rF m ⟨a,b,c,d,m⟩)->l=(rG y.1 y.2).2/\a=(rG y.1 y.2).1.a/\b=(rG y.1 y.2).1.b/\c=(rG y.1 y.2).1.c/\d=(rG y.1 y.2).1.d/\(m:Int)=(rG y.1 y.2).1.n)/\
  (gz (rF m ⟨a,b,c,d,m⟩)=false->
   ((bq (rF m ⟨a,b,c,d,m⟩)).2=0->((l++[(65533,1)]).length:Int)*(16:Nat)<=140737488355328/\(uv ⟨a,b,c,d,m⟩/\(1:Int)<=1/\(1:Int)<=m)/\
    ∃z:iT×List Gt,l++[(65533,1)]=z.2/\(y7 ⟨a,b,c,d,m⟩ 1).a=z.1.a/\(y7 ⟨a,b,c,d,m⟩ 1).b=z.1.b/\(y7 ⟨a,b,c,d,m⟩ 1).c=z.1.c/\(y7 ⟨a,b,c,d,m⟩ 1).d=z.1.d/\(y7 ⟨a,b,c,d,m⟩ 1).n=z.1.n/\qp y z/\z.1.n.toNat<m)/\
   ((bq (rF m ⟨a,b,c,d,m⟩)).2≠0->((l++[((bq (rF m ⟨a,b,c,d,m⟩)).1,(bq (rF m ⟨a,b,c,d,m⟩)).2)]).length:Int)*(16:Nat)<=140737488355328/\(uv ⟨a,b,c,d,m⟩/\1<=(bq (rF m ⟨a,b,c,d,m⟩)).2/\(bq (rF m ⟨a,b,c,d,m⟩)).2<=m)/\
    ∃z:iT×List Gt,l++[((bq (rF m ⟨a,b,c,d,m⟩)).1,(bq (rF m ⟨a,b,c,d,m⟩)).2)]=z.2/\(y7 ⟨a,b,c,d,m⟩ (bq (rF m ⟨a,b,c,d,m⟩)).2.toNat).a=z.1.a/\(y7 ⟨a,b,c,d,m⟩ (bq (rF m ⟨a,b,c,d,m⟩)).2.toNat).b=z.1.b/\
     (y7 ⟨a,b,c,d,m⟩ (bq (rF m ⟨a,b,c,d,m⟩)).2.toNat).c=z.1.c/\(y7 ⟨a,b,c,d,m⟩ (bq (rF m ⟨a,b,c,d,m⟩)).2.toNat).d=z.1.d/\(y7 ⟨a,b,c,d,m⟩ (bq (rF m ⟨a,b,c,d,m⟩)).2.toNat).n=z.1.n/\qp y z/\z.1.n.toNat<m)):=by
 have e:rF m ⟨a,b,c,d,m⟩=ec ⟨a,b,c,d,m⟩:=rfl;rw[e];obtain⟨b1,g⟩:=Qey y ⟨a,b,c,d,m⟩ l (by grind) f;grind [uv,iU]
theorem Qpa (y:iT×Int) (i:0<=y.1.n/\y.1.n<=3):RW y:=by
 unfold RW;simp only[QaU,dq,aj,aU,aO,ZaX,ZaY,ZaZ];obtain⟨h1,j⟩:=i;refine⟨⟨λk=>?_,λ_=>⟨λk=>?_,λ_=>⟨λk=>?_,λk=>?_⟩⟩⟩,⟨(sr y.1 y.2,[]),rfl,rfl,rfl,rfl,rfl,aV ω ω,?_⟩,λx f=>?_⟩
 ·simp[k]
 ·simp[k]
 ·simp[k]
 ·omega
 ·have e:(sr y.1 y.2).n=y.1.n+1:=rfl;exact⟨by grind,by grind,by grind,(pY 4 (sr y.1 y.2) [] ω ω).symm⟩
 ·obtain⟨⟨a,b,c,d,n⟩,l⟩:=x;have g:=f;obtain⟨h,a2,a3,a4⟩:=g;simp only at h a2 a3 a4;refine⟨λk0=>⟨λk=>?_,λk4=>⟨λk=>?_,λk3=>⟨λk=>?_,λk2=>⟨λk=>?_,λk1=>?_⟩⟩⟩⟩,λk0=>?_⟩
  ·obtain rfl:n=4:=k;exact vJ y a b c d 4 l (by decide) (by decide) f
  ·obtain rfl:n=3:=k;exact vJ y a b c d 3 l (by decide) (by decide) f
  ·obtain rfl:n=2:=k;exact vJ y a b c d 2 l (by decide) (by decide) f
  ·obtain rfl:n=1:=k;exact vJ y a b c d 1 l (by decide) (by decide) f
  ·grind
  ·have:n.toNat=0:=by grind
   grind [nK]
def Qiy:Ok RV:=okZ [RU 1,RU 2,RU 3,RU 4,udC] Tryz.f67 Qo8 ⟨KG 1 (by decide) (by decide),KG 2 (by decide) (by decide),KG 3 (by decide) (by decide),KG 4 (by decide) (by decide),Qo7⟩ Qpa
def mX (v:ig) (l:List Gt):ig:=l.foldl (λv g=>rnF ⟨v,g.1,g.2⟩) v
structure W1 where
 v:ig
 l:List Gt
def rsP (y:W1):Prop:=YB y.v/\y.v.p.ah.length=y.v.L.length/\0<=y.v.place/\y.v.place+4*y.l.length<=1000000000000
def ssC:bf D:=⟨66,W1,λa s=>match a with
 | [p,l]=>av (Ha p s) λv=>av (rowsOf D s 13 l) λl=>.ret ⟨v,(l:List Gt)⟩
 | _=>.fail,rsP,λy=>[.ptr 0 0,.list 13 y.l],λy=>Eb 0 y.v,λ_=>.tuple [],λy=>CX 0 5 4 (mX y.v y.l),5,6⟩
def ssO (y:ssC.Y):cH D:=⟨[],[],[(6,⟨Nat,[0,6,7],λk=>[(8,Qu9 k)],[],λk=>CX 0 5 4 (mX (W1.v y) ((W1.l y).take k)),6,λk=>k<=(W1.l y).length,λk=>(W1.l y).length-k⟩)],[],1,[]⟩
def Qez (y:W1):Prop:=let b:=mX y.v y.l;let g:=y.l.length;let h:=ab y.l;(∃z:Nat,let c:=mX y.v (List.take z y.l);aa [y.l] (aa [h] (0=(z:Int)/\y.v.p.code=c.p.code/\y.v.p.ah=c.p.ah/\y.v.place=c.place/\ab y.v.L=ab c.L/\ab y.v.s.pl=ab c.s.pl/\ab y.v.s.us=ab c.s.us/\y.v.s.us=c.s.us/\y.v.s.pl=c.s.pl/\y.v.L=c.L/\(Iv (z<=g)))))/\(∀x:Nat,let a:=mX y.v (List.take x y.l);let i:=ab a.s.us;let j:=ab a.s.pl;let f:=gt (0,0) y.l (x:Int).toNat;let e:=iJ a f.1 a.L.length;(Iv (x<=g))->ag (ax (x:Int) h) (aC 0 (x:Int)/\ax (x:Int) h/\Iv (rnP (W0.mk a f.1 f.2))/\aa [f.1,f.2] (aa [a.p.code] (aa [a.p.ah] (aa [a.place,ab a.L,j,i] (aa [a.s.us] (aa [a.s.pl] (aa [a.L] (∃z:Nat,let d:=mX y.v (List.take z y.l);aa [y.l] (aa [h] (an .i64 (x:Int) 1=(z:Int)/\e.p.code=d.p.code/\e.p.ah=d.p.ah/\(a.place+Yu f.2)=d.place/\ab e.L=ab d.L/\ab e.s.pl=ab d.s.pl/\ab e.s.us=ab d.s.us/\e.s.us=d.s.us/\e.s.pl=d.s.pl/\e.L=d.L/\(Iv (z<=g/\(g-z)<(g-x))))))))))))) (a.p.code=b.p.code/\a.p.ah=b.p.ah/\a.place=b.place/\ab a.L=ab b.L/\j=ab b.s.pl/\i=ab b.s.us/\a.s.us=b.s.us/\a.s.pl=b.s.pl/\a.L=b.L/\True))
def RX (v:ig) (N:Int):Prop:=YB v/\v.p.ah.length=v.L.length/\0<=v.place/\v.place<=N
def QeB {v:ig} {N:Int} (r n:Int) (h:RX v N):RX (rnF ⟨v,r,n⟩) (N+4):=by
 obtain⟨h1,a,d,e⟩:=h;obtain⟨i1,b,g,c⟩:=pW r h1 v.L.length;have f:0<=Yu n/\Yu n<=4:=by unfold Yu fN imax;split<;>split<;>omega
 exact⟨i1,by show(iJ v r v.L.length).p.ah.length=(iJ v r v.L.length).L.length;rw[b,c];exact a,by show 0<=v.place+Yu n;omega,by show v.place+Yu n<=N+4;omega⟩
theorem tr {v:ig} {l:List Gt} {x:Nat} (h:x<l.length):mX v (l.take (x+1))=rnF ⟨mX v (l.take x),l[x].1,l[x].2⟩:=by
 grind [mX,List.take_append_getElem]
theorem nL {v:ig} {N:Int} {l:List Gt} (h:RX v N):∀x,x<=l.length->RX (mX v (l.take x)) (N+4*x)
 | 0,_=>by simpa [mX] using h
 | x+1,a=>by
  rw[tr (show x<l.length by omega)];have:=QeB (l[x]'ω).1 (l[x]'ω).2 (nL (l:=l) h x ω);grind
theorem ssH (y:W1) (g:rsP y):Qez y:=by
 unfold Qez;simp only[QaU,dq,aj,dA,Zad];obtain⟨h1,b,c,h⟩:=g;have d:RX y.v y.v.place:=⟨h1,b,c,ZaQ _⟩;refine⟨⟨0,rfl,rfl,rfl,rfl,rfl,rfl,rfl,rfl,rfl,rfl,Zaj _⟩,λx f=>⟨λk=>?_,λk=>?_⟩⟩
 ·have a:x<y.l.length:=ω;have ht:y.l.getD x (0,0)=y.l[x]:=by rw[Zag,Zaf a];rfl
  obtain⟨g1,g2,g3,g4⟩:=nL d x f;rw[ht];have e:=tr (v:=y.v) a;refine⟨ω,k,⟨g1,g2,g3,by show(mX y.v (y.l.take x)).place<=1000000000000;omega⟩,x+1,aV ω ω,?_⟩;grind [rnF]
 ·grind
def Qiz:Ok ssC:=okZ [RP] Tryz.f66 ssO Qio ssH
def M4:bf D:=bZ 189 Int (λa _=>in1 a) (λ_=>True) (λy=>[.int .i32 y]) λy=>.bool (ic y)
def Eu:bf D:=bZ 166 Int (λa _=>in1 a) (λ_=>True) (λy=>[.int .i32 y]) λy=>.list 6 (eh y)
def RY:bf D:=bZ 165 Unit (λ_ _=>.ret ()) (λ_=>True) (λ_=>[]) λ_=>.list 6 XB
def Qpe (args:List (AV D.E)):C (By×By):=match args with
 | [a,b]=>av (hZ a) λx=>av (hZ b) λz=>.ret (x,z)
 | _=>.fail
def M5:bf D:=bZ 168 (By×By) (λa _=>Qpe a) (λ_=>True) (λy=>[.str y.1,.str y.2]) λy=>.bool (ie y.1 y.2)
def YG (args:List (AV D.E)):C By:=match args with
 | [a]=>av (hZ a) λx=>.ret x
 | _=>.fail
def kT (y:By):Prop:=∀c∈y,48<=c.toNat/\c.toNat<=57
def Hy:bf D:=bZ 169 By (λa _=>YG a) kT (λy=>[.str y]) λy=>.tuple [Qu9 (syn.eE y).1,.bool (syn.eE y).2]
def Qpg (y:Hy.Y):cH D:=⟨[],[],[(122,⟨Nat,[0,10],λx=>[(4,Qu9 (gF (y.take x))),(11,Qu9 x)],[],λ_=>[],0,λx=>x<=y.length,λx=>y.length-x⟩)],[],1,[]⟩
structure bO where
 i:Int
 opens:Int
 ae:Int
 err:Int
 wh:Int
def nn (s:bO):Ps:=⟨s.i.toNat,s.opens.toNat,s.ae.toNat,s.err,s.wh⟩
def zz (s:Ps):bO:=⟨s.i,s.opens,s.ae,s.err,s.wh⟩
def bC (G:List Gt):List Int:=(List.range G.length).map (place G)
def dC (G:List Gt) (s:bO):List (Nat×AO D.E):=[(0,.cells [.list 13 G,.list 5 (bC G),.int .i64 s.i,.int .i64 s.opens,.int .i64 s.ae,.int .i64 s.err,.int .i64 s.wh] 115 false)]
abbrev PS:=List Gt×bO
def QeC (v:AV D.E) (s:St D.E):C PS:=match v with
 | .ptr b _=>av (cE (s.h.get b)) λo=>match o with
  | .cells cs _ _=>match cs with
   | [l,_,i,o,g,e,w]=>av (rowsOf D s 13 l) λl=>aI (cT i) λ_ i=>aI (cT o) λ_ o=>aI (cT g) λ_ g=>aI (cT e) λ_ e=>aI (cT w) λ_ w=>.ret ((l:List Gt),⟨i,o,g,e,w⟩)
   | _=>.fail
  | _=>.fail
 | _=>.fail
def M6 (args:List (AV D.E)) (s:St D.E):C PS:=match args with
 | [p]=>QeC p s
 | _=>.fail
def RZ (args:List (AV D.E)) (s:St D.E):C (PS×Int):=match args with
 | [p,a]=>av (QeC p s) λy=>aI (cT a) λ_ n=>.ret (y,n)
 | _=>.fail
def QeD (args:List (AV D.E)) (s:St D.E):C (PS×Int×Int):=match args with
 | [p,a,b]=>av (QeC p s) λy=>aI (cT a) λ_ m=>aI (cT b) λ_ n=>.ret (y,m,n)
 | _=>.fail
def bj (y:PS):Prop:=y.1.length<=4096/\(0<=y.2.i/\y.2.i<=y.1.length)/\(0<=y.2.opens/\y.2.opens<=20)/\(0<=y.2.ae/\y.2.ae<=4)/\Fx y.1
abbrev xB (f:FuncId) (Y:Type) (a:Y->PS) (zy:List (AV D.E)->St D.E->C Y) (pre:Y->Prop) (args:Y->List (AV D.E)) (out:Y->bO) (res:Y->AV D.E):bf D:=⟨f,Y,zy,λy=>bj (a y)/\pre y,λy=>.ptr 0 0::args y,λy=>dC (a y).1 (a y).2,res,λy=>dC (a y).1 (out y),1,1⟩
variable {G:List Gt} {i:Nat} {l:List (List Nd)}
def W2:bf D:=xB 108 (PS×Int) (·.1) RZ (λ_=>True) (λy=>[.int .i32 y.2]) (λy=>y.1.2) λy=>.bool (aQ y.1.1 (nn y.1.2) y.2)
def tt:bf D:=xB 76 (PS×Int) (·.1) RZ (λ_=>True) (λy=>[.int .i32 y.2]) (λy=>zz (aY y.1.1 (nn y.1.2) y.2)) λy=>.bool (aQ y.1.1 (nn y.1.2) y.2)
def y8:bf D:=xB 161 (PS×Int) (·.1) RZ (λy=>0<=y.2/\y.2<y.1.1.length) (λy=>[Qu9 y.2]) (λy=>y.1.2) λy=>.bool (eD y.1.1 y.2.toNat)
def qq:bf D:=xB 43 (PS×Int×Int) (·.1) QeD (λy=>0<=y.2.1/\y.2.1<y.1.1.length) (λy=>[Qu9 y.2.1,Qu9 y.2.2]) (λy=>zz ((nn y.1.2).ak y.1.1 y.2.1.toNat y.2.2)) λ_=>.cF
def Qpl (args:List (AV D.E)) (s:St D.E):C (Int×List (List Nd)):=match args with
 | [a,b]=>aI (cT a) λ_ n=>av (rowsOf D s 9 b) λl=>.ret (n,(l:List (List Nd)))
 | _=>.fail
def y9:bf D:=bZ 77 (Int×List (List Nd)) Qpl (λy=>total y.2<=100000/\y.2.length<=100000) (λy=>[Qu9 y.1,.list 9 y.2]) λy=>.list 7 (bK y.1 y.2)
def Qpm (y:y9.Y):cH D:=⟨[],[],[(122,⟨Nat,[24,25],λx=>[(5,.grow 7 ({ nd y.1 with kids:=y.2.length }::(y.2.take x).flatten) 0),(26,Qu9 x)],[],λ_=>[(0,.tok 7 131)],1,λx=>x<=y.2.length,λx=>y.2.length-x⟩)],[],1,[]⟩
def R0 (y:Int):Prop:=let a:Prop:=(ag (aC 123 y) (aC y 126=ic y/\True) (false=ic y/\True));let b:Prop:=(ag (aC 91 y) (ag (aC y 96) (true=ic y/\True) (a)) (a));let c:Prop:=(ag (aC 58 y) (ag (aC y 64) (true=ic y/\True) (b)) (b));ag (aC 33 y) (ag (aC y 47) (true=ic y/\True) (c)) (c)
def R1 (y:Int):Prop:=let a:=([(y,y)]:List (Int×Int));Iv (a.length<=100000000)/\aa [a] (aL a=eh y/\True)
def R2 (y:Unit):Prop:=Iv (1<=1000000)/\aa ([[(10,10)]]:List (List (Int×Int))) (lB [(10,10)]=XB/\True)
def R3 (y:(List UInt8)×(List UInt8)):Prop:=let a:=ie y.1 y.2;let b:=ax (eO y.1) (eO y.2);let c:=az (eO y.1) (eO y.2);ag b (true=a/\True) (ag c (slt y.1 y.2=a/\True) (false=a/\True))
def KH (y:List UInt8):Prop:=ag (ax 2 (eO y)) (0=(eE y).1/\false=(eE y).2/\True) ((∃z:Nat,aa [y] (aa [eO y] (0=gF (List.take z y)/\0=(z:Int)/\(Iv (z<=y.length)))))/\(∀x:Nat,let a:=y.length;let b:=gF (List.take x y);let c:=ax (x:Int) (eO y);(Iv (x<=a))->ag c (aC 0 (x:Int)/\c/\∃z:Nat,aa [y] (aa [eO y] (an .i64 (iR .i64 10 b) (wc .i64 (da .u8 (sat y (x:Int)) 48))=gF (List.take z y)/\an .i64 (x:Int) 1=(z:Int)/\(Iv (z<=a/\(a-z)<(a-x)))))) (b=(eE y).1/\aC b 30=(eE y).2/\True)))
def QeE (y:((List (Int×Int))×bO)×Int):Prop:=let a:=ax y.1.2.i (ab y.1.1);let b:=aQ y.1.1 (nn y.1.2) y.2;let c:=(gt (0,0) y.1.1 y.1.2.i.toNat).1;let d:Prop:=(aa [y.1.1] (aa [bC y.1.1] (aa [y.1.2.i,y.1.2.opens,y.1.2.ae,y.1.2.err,y.1.2.wh] (True))));ag a (aC 0 y.1.2.i/\a/\aa [y.1.2.i] (aa [y.1.1,y.1.1] (aa [y.1.2.i,c] (az c y.2=b/\d)))) (aa [y.1.2.i] (aa [y.1.1] (false=b/\d)))
def R4 (y:((List (Int×Int))×bO)×Int):Prop:=let b:=aQ y.1.1 (nn y.1.2) y.2;let a:=aY y.1.1 (nn y.1.2) y.2;let c:=((a.i:Nat):Int);let d:Prop:=(y.1.2.opens=((a.opens:Nat):Int)/\y.1.2.ae=((a.ae:Nat):Int)/\y.1.2.err=a.err/\y.1.2.wh=a.wh/\True);Iv (bj (y.1.1,y.1.2)/\True)/\aa [y.2] (aa [y.1.1] (aa [bC y.1.1] (aa [y.1.2.i,y.1.2.opens,y.1.2.ae,y.1.2.err,y.1.2.wh] (ag b (true=b/\aa [y.1.1] (aa [bC y.1.1] (an .i64 y.1.2.i 1=c/\d))) (false=b/\aa [y.1.1] (aa [bC y.1.1] (y.1.2.i=c/\d)))))))
def R5 (y:((List (Int×Int))×bO)×Int):Prop:=let a:=eD y.1.1 y.2.toNat;let b:=gt (0,0) y.1.1 y.2.toNat;let c:Prop:=(aa [y.1.1] (aa [bC y.1.1] (aa [y.1.2.i,y.1.2.opens,y.1.2.ae,y.1.2.err,y.1.2.wh] (True))));aC 0 y.2/\ax y.2 (ab y.1.1)/\ag (az b.1 65533) (aC 0 y.2/\ax y.2 (ab y.1.1)/\az b.2 1=a/\c) (false=a/\c)
def R6 (y:((List (Int×Int))×bO)×Int×Int):Prop:=let b:=bC y.1.1;let a:=Ps.ak y.1.1 (nn y.1.2) y.2.1.toNat y.2.2;ag (az y.1.2.err 0) (aC 0 y.2.1/\ax y.2.1 (ab b)/\aa [y.1.1] (aa [b] (y.1.2.i=((a.i:Nat):Int)/\y.1.2.opens=((a.opens:Nat):Int)/\y.1.2.ae=((a.ae:Nat):Int)/\y.2.2=a.err/\gt 0 b y.2.1.toNat=a.wh/\True))) (aa [y.1.1] (aa [b] (y.1.2.i=((a.i:Nat):Int)/\y.1.2.opens=((a.opens:Nat):Int)/\y.1.2.ae=((a.ae:Nat):Int)/\y.1.2.err=a.err/\y.1.2.wh=a.wh/\True)))
def KI (y:Int×(List (List Nd))):Prop:=let a:=ab y.2;let b:=y.2.length;let c:=bK y.1 y.2;let d:=Nd.mk y.1 [] 0 0 false 0 (b:Int);ag (az a 0) (([Nd.mk 1 [] 0 0 false 0 0]:List Nd)=c/\True) (ag (az a 1) (Tt 1 (ax 0 a/\gt [] y.2 0=c/\True)) ((∃z:Nat,aa [y.2] (aa [a] (([Nd.mk y.1 [] 0 0 false 0 a]:List Nd)=(d::(List.flatten (List.take z y.2)))/\0=(z:Int)/\(Iv (z<=b)))))/\(∀x:Nat,let e:=(d::(List.flatten (List.take x y.2)));let f:=aZ e (gt [] y.2 (x:Int).toNat);(Iv (x<=b))->ag (ax (x:Int) a) (aC 0 (x:Int)/\ax (x:Int) a/\fits (ab f) 72/\∃z:Nat,aa [y.2] (aa [a] (f=(d::(List.flatten (List.take z y.2)))/\an .i64 (x:Int) 1=(z:Int)/\(Iv (z<=b/\(b-z)<(b-x)))))) (e=c/\True))))
theorem QiA (y:Int) (a:M4.pre y):R0 y:=by
 grind [R0,ic]
def QiB:Ok M4:=okZ [] Tryz.f189 (λ_=>cX ()) trivial QiA
def Qpo (y:Int) (a:Eu.pre y):R1 y:=by
 unfold R1;simp only[cG,Zai];exact⟨⟨by simp⟩,rfl⟩
def Qcg (a:Ok dc):Ok Eu:=okZ [dc] Tryz.f166 (λ_=>cX ()) a Qpo
def Qpp (y:Unit) (a:RY.pre y):R2 y:=by
 unfold R2;simp only[cG,Zai];exact⟨⟨ω⟩,rfl⟩
theorem Qpq (y:By×By) (a:M5.pre y):R3 y:=by
 unfold R3;simp only[QaU,Qbt,lO];unfold ie;refine⟨λh=>?_,λh=>⟨λb=>?_,λb=>?_⟩⟩
 ·grind
 ·rw[ZaN (show ¬y.1.length<y.2.length by omega),show(y.1.length==y.2.length)=true by grind,bytesLess_eq];rfl
 ·grind
def QiC:Ok M5:=okZ [] Tryz.f168 (λ_=>cX ()) trivial Qpq
theorem R7 {s:Ps} (r:Int) (h:s.i<G.length):aQ G s r=decide ((G.getD s.i (0,0)).1=r):=by
 grind [aQ]
theorem B' {s:Ps} (r:Int) (h:G.length<=s.i):aQ G s r=false:=by
 grind [aQ]
theorem z_n {s:bO} (h:0<=s.i) (a:0<=s.opens) (b:0<=s.ae):zz (nn s)=s:=by
 obtain⟨i,o,g,e,w⟩:=s;simp only at h a b;unfold zz nn;grind
def isH (y:PS×Int) (b:W2.pre y):QeE y:=by
 obtain⟨⟨h1,a,_⟩,_⟩:=b;have a:0<=y.1.2.i/\y.1.2.i<=y.1.1.length:=a;unfold QeE;simp only[Qbt,gf,gG,dP,aj,gt];refine⟨λh=>⟨a.1,h,?_⟩,λh=>?_⟩
 ·rw[R7 (s:=nn y.1.2) y.2 (show y.1.2.i.toNat<y.1.1.length by omega)];rfl
 ·rw[B' (s:=nn y.1.2) y.2 (show y.1.1.length<=y.1.2.i.toNat by omega)]
def isOk:Ok W2:=okZ [] Tryz.f108 (λ_=>cX ()) trivial isH
theorem Qpr (y:PS×Int) (d:tt.pre y):R4 y:=by
 obtain⟨h0,_⟩:=d;obtain⟨h1,a,b,c⟩:=id h0;have h1:y.1.1.length<=4096:=h1;have a:0<=y.1.2.i/\y.1.2.i<=y.1.1.length:=a;have hz:=z_n (s:=y.1.2) a.1 b.1 c.1.1;unfold R4;simp only[Qbt];refine⟨⟨h0⟩,λh=>?_,λh=>?_⟩
 ·unfold aY;rw[Zac h,h];refine⟨rfl,?_,ZaR bO.opens hz.symm,ZaR bO.ae hz.symm,rfl,rfl⟩;rw[aV ω ω];show _=((y.1.2.i.toNat+1:Nat):Int)
  omega
 ·unfold aY;rw[Zaa (by grind),h];exact⟨rfl,ZaR bO.i hz.symm,ZaR bO.opens hz.symm,ZaR bO.ae hz.symm,rfl,rfl⟩
def Aw:Ok tt:=okZ [W2] Tryz.f76 (λ_=>cX ()) isOk Qpr
theorem KJ (h:i<G.length):eD G i=(decide ((G.getD i (0,0)).1=65533)&&decide ((G.getD i (0,0)).2=1)):=by
 grind [eD]
theorem Qps (y:PS×Int) (b:y8.pre y):R5 y:=by
 obtain⟨_,h1,a⟩:=b;have h1:0<=y.2:=h1;have a:y.2<y.1.1.length:=a;unfold R5;simp only[QaU,Qbt,aj,gt];grind [KJ]
def R8:Ok y8:=okZ [] Tryz.f161 (λ_=>cX ()) trivial Qps
theorem xC (G:List Gt):(bC G).length=G.length:=by grind [bC]
theorem KK (h:i<G.length) (d:Int):(bC G).getD i d=place G i:=by
 grind [bC]
def Qpt (y:PS×Int×Int) (d:qq.pre y):R6 y:=by
 obtain⟨⟨_,g2,g3,g4⟩,h1,a⟩:=d;have h1:0<=y.2.1:=h1;have a:y.2.1<y.1.1.length:=a;have hz:=z_n (s:=y.1.2) g2.1 g3.1 g4.1.1;have b:=ZaR bO.i hz.symm;have e2:=ZaR bO.opens hz.symm;have c:=ZaR bO.ae hz.symm;unfold R6;simp only[QaU,Qbt,aj,gt,xC];rw[KK (show y.2.1.toNat<y.1.1.length by omega)];unfold Ps.ak;refine⟨λh=>?_,λh=>?_⟩
 ·rw[Zac (show(nn y.1.2).err=0 from h)];exact⟨h1,a,b,e2,c,rfl,rfl⟩
 ·rw[Zaa (show ¬(nn y.1.2).err=0 from h)];exact⟨b,e2,c,rfl,rfl⟩
def uw:Ok qq:=okZ [] Tryz.f43 (λ_=>cX ()) trivial Qpt
theorem YQ (i:Nat):(l.take i).flatten.length<=total l:=by
 grind [total,List.take_append_drop]
theorem Ax (h:i<l.length):(l.take i).flatten++l.getD i []=(l.take (i+1)).flatten:=by
 grind [List.take_succ]
theorem QiD (y:Int×List (List Nd)) (f:y9.pre y):KI y:=by
 obtain⟨op,l⟩:=y;obtain⟨h1,g⟩:total l<=100000/\l.length<=100000:=f;unfold KI;simp only[QaU,Qbt,aj,gt,aO,aU,Zad];refine⟨λh=>?_,λh=>⟨λc=>⟨ω,?_⟩,λc=>⟨⟨0,rfl,rfl,⟨ω⟩⟩,λx e=>⟨λd=>⟨ω,d,?_,x+1,?_,aV ω ω,⟨⟨ω,ω⟩⟩⟩,λd=>?_⟩⟩⟩⟩
 ·obtain rfl:l=[]:=Zap ω;rfl
 ·obtain⟨a,rfl⟩:=List.length_eq_one_iff.1 (show l.length=1 by omega);rfl
 ·grind [YQ,Ax]
 ·grind [Ax]
 ·have e:=e.out;rw[ZaA ω]
  match l,h,c with
  | [],h,_=>exact absurd rfl h
  | [a],_,c=>exact absurd rfl c
  | a::b::t,_,_=>rfl
def Qch:Ok y9:=okZ [] Tryz.f77 Qpm trivial QiD
theorem R9 {y:By} (h:i<y.length):gF (y.take (i+1))=10*gF (y.take i)+(((y.getD i 0).toNat:Int) -48):=by
 grind [gF,List.take_succ]
theorem QeG {y:By} (h:kT y) (hl:y.length<=2):0<=gF y/\gF y<=99:=by
 match y,h,hl with
 | [],_,_=>simp[gF]
 | [a],h,_=>
  have:=h a (by simp);simp[gF];omega
 | [a,b],h,_=>
  have:=h a (by simp);have:=h b (by simp);simp[gF];omega
theorem QiE (y:By) (a:Hy.pre y):KH y:=by
 have a:kT y:=a;unfold KH;simp only[Qbt,gf,gG,dP,lO];unfold syn.eE;refine⟨λh=>?_,λh=>⟨⟨0,by rfl,rfl,⟨ω⟩⟩,λx g=>⟨λd=>⟨ω,d,x+1,?_,aV ω ω,⟨⟨ω,ω⟩⟩⟩,λd=>?_⟩⟩⟩
 ·grind
 ·have b:x<y.length:=ω;rw[R9 b];have e:=a (y.getD x 0) (by grind);have f:=QeG (y:=y.take x) (λc e=>a c (Zcg e)) (by grind);have es:sat y (x:Int)=((y.getD x 0).toNat:Int):=by rfl
  grind [da,dF,cB,CU,sY,wc]
 ·grind
def QiF:Ok Hy:=okZ [] Tryz.f169 Qpg trivial QiE
def Qci (k:PS->Bool) (args:List (AV D.E)) (s:St D.E):C (PS×Bool):=av (M6 args s) λp=>.split (k p) (.ret (p,true)) (.ret (p,false))
def B_ (y:PS):Bool:=decide ((dZ y.1 (nn y.2)).2.1=[])
def QiG (z:Bool) (l:List Rg) (b:Bool):AV D.E:=match z with
 | true=>.tuple [.cF,.bool false]
 | false=>.tuple [.list 6 l,.bool b]
def Ev (y:PS×Bool):Prop:=y.1.2.i<y.1.1.length/\y.2=B_ y.1
def y_:bf D:=xB 164 (PS×Bool) (·.1) (Qci B_) Ev (λ_=>[]) (λy=>zz (dZ y.1.1 (nn y.1.2)).1) λy=>QiG y.2 (dZ y.1.1 (nn y.1.2)).2.1 (dZ y.1.1 (nn y.1.2)).2.2
def QiH (y:PS):Prop:=vc [qq,y8,Eu,dc,M4] Tryz.f164 y_ (λ_=>cX ()) (y,true)
def QiI (y:PS):Prop:=vc [qq,y8,Eu,dc,M4] Tryz.f164 y_ (λ_=>cX ()) (y,false)
def xD (y:PS):Bool:=decide ((bP y.1 (nn y.2)).2.1=[])
def M7 (y:PS×Bool):Prop:=y.1.2.i<y.1.1.length/\y.2=xD y.1
def Hz:bf D:=xB 199 (PS×Bool) (·.1) (Qci xD) M7 (λ_=>[]) (λy=>zz (bP y.1.1 (nn y.1.2)).1) λy=>QiG y.2 (bP y.1.1 (nn y.1.2)).2.1 (bP y.1.1 (nn y.1.2)).2.2
def QiJ (y:PS):Prop:=vc [qq,y8,y_] Tryz.f199 Hz (λ_=>cX ()) (y,true)
def QiK (y:PS):Prop:=vc [qq,y8,y_] Tryz.f199 Hz (λ_=>cX ()) (y,false)
end
end sx
end Go.Proofs.YtadfknojfbmjgaaGreat
